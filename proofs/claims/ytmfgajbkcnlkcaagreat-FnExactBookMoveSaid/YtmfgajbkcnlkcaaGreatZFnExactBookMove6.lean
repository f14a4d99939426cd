/- What the law FnExactBookMove leans on, cut out of this repo's own texts by a program of this repo: plain functions, the walks that tie the Go calls to them, the law over lists and numbers, and the row. -/
import Derived.Test.YtmfgajbkcnlkcaaGreatZFnExactBookMove5
import Derived.Shelf.SlSortCmp.WholeK
import Derived.Shelf.SlSortCmp.NoneTotal
import Derived.Shelf.SlicesQ.Reverse
import Derived.Ground.SlsfProg
import Derived.Ground.SlgnProg
import Derived.Test.YtmfgajbkcnlkcaaGreatProg
import Derived.RowKit
import Derived.IntWalk
set_option maxHeartbeats 8000000
set_option maxRecDepth 100000
namespace Go.Proofs.YtmfgajbkcnlkcaaGreat.P
end Go.Proofs.YtmfgajbkcnlkcaaGreat.P
namespace Go.Proofs.YtmfgajbkcnlkcaaGreat.EV
end Go.Proofs.YtmfgajbkcnlkcaaGreat.EV
namespace Go.Proofs.YtmfgajbkcnlkcaaGreat.I1
end Go.Proofs.YtmfgajbkcnlkcaaGreat.I1
namespace Go.Proofs.YtmfgajbkcnlkcaaGreat.T1
end Go.Proofs.YtmfgajbkcnlkcaaGreat.T1
namespace Go.Proofs.YtmfgajbkcnlkcaaGreat.C1
end Go.Proofs.YtmfgajbkcnlkcaaGreat.C1
namespace Go.Proofs.YtmfgajbkcnlkcaaGreat.N1
end Go.Proofs.YtmfgajbkcnlkcaaGreat.N1
namespace Go.Proofs.YtmfgajbkcnlkcaaGreat.B1
end Go.Proofs.YtmfgajbkcnlkcaaGreat.B1
namespace Go.Proofs.YtmfgajbkcnlkcaaGreat.E1
end Go.Proofs.YtmfgajbkcnlkcaaGreat.E1
namespace Go.Proofs
open Go.Shelf
def Tryz.sortLot_ren:Go.Shelf.Ren:=⟨fun | 6=>185 | 15=>195 | 14=>194 | 28=>206 | 29=>207 | 20=>198 | 21=>199 | 22=>200 | 23=>201 | 24=>202 | 25=>203 | 26=>204 | 27=>205 | 46=>209 | 47=>210 | 48=>211 | 49=>212 | 50=>213 | 57=>214 | n=>n,fun | 22=>33 | 24=>110 | 25=>145 | 3=>3 | 39=>189 | 0=>0 | 53=>201 | 55=>183 | 4=>4 | 46=>195 | 45=>194 | 50=>139 | 5=>5 | 9=>9 | 66=>203 | 70=>207 | 76=>209 | 77=>57 | n=>n,fun | n=>n⟩
theorem Tryz.sortLot:Go.Proofs.SlLaysF0.n6 Tryz.prog Tryz.sortLot_ren:={
 mixed:=by kernel_rfl
 f6:=⟨Tryz.f185.name,by decide,Tryz.func185.trans (congrArg some (by kernel_rfl))⟩
 f14:=⟨Tryz.f194.name,by decide,Tryz.func194.trans (congrArg some (by kernel_rfl))⟩
 f15:=Tryz.func195.trans (congrArg some (by kernel_rfl))
 f20:=⟨Tryz.f198.name,by decide,Tryz.func198.trans (congrArg some (by kernel_rfl))⟩
 f21:=⟨Tryz.f199.name,by decide,Tryz.func199.trans (congrArg some (by kernel_rfl))⟩
 f22:=⟨Tryz.f200.name,by decide,Tryz.func200.trans (congrArg some (by kernel_rfl))⟩
 f23:=⟨Tryz.f201.name,by decide,Tryz.func201.trans (congrArg some (by kernel_rfl))⟩
 f24:=⟨Tryz.f202.name,by decide,Tryz.func202.trans (congrArg some (by kernel_rfl))⟩
 f25:=⟨Tryz.f203.name,by decide,Tryz.func203.trans (congrArg some (by kernel_rfl))⟩
 f26:=⟨Tryz.f204.name,by decide,Tryz.func204.trans (congrArg some (by kernel_rfl))⟩
 f27:=⟨Tryz.f205.name,by decide,Tryz.func205.trans (congrArg some (by kernel_rfl))⟩
 f28:=Tryz.func206.trans (congrArg some (by kernel_rfl))
 f29:=Tryz.func207.trans (congrArg some (by kernel_rfl))
 f46:=⟨Tryz.f209.name,by decide,Tryz.func209.trans (congrArg some (by kernel_rfl))⟩
 f47:=Tryz.func210.trans (congrArg some (by kernel_rfl))
 f48:=Tryz.func211.trans (congrArg some (by kernel_rfl))
 f49:=⟨Tryz.f212.name,by decide,Tryz.func212.trans (congrArg some (by kernel_rfl))⟩
 f50:=⟨Tryz.f213.name,by decide,Tryz.func213.trans (congrArg some (by kernel_rfl))⟩
 f57:=⟨Tryz.f214.name,by decide,Tryz.func214.trans (congrArg some (by kernel_rfl))⟩
 t0:=Tryz.underlying0
 a0:=Tryz.isAgg0
 z0:=Tryz.sizeOf0
 v0:=Tryz.zeroValue0
 t3:=Tryz.underlying3
 a3:=Tryz.isAgg3
 z3:=Tryz.sizeOf3
 v3:=Tryz.zeroValue3
 t4:=Tryz.underlying4
 a4:=Tryz.isAgg4
 z4:=Tryz.sizeOf4
 v4:=Tryz.zeroValue4
 t5:=Tryz.underlying5
 a5:=Tryz.isAgg5
 z5:=Tryz.sizeOf5
 v5:=Tryz.zeroValue5
 t9:=Tryz.underlying9
 a9:=Tryz.isAgg9
 z9:=Tryz.sizeOf9
 v9:=Tryz.zeroValue9
 t22:=Tryz.underlying33
 a22:=Tryz.isAgg33
 z22:=Tryz.sizeOf33
 v22:=Tryz.zeroValue33
 t25:=Tryz.underlying145
 a25:=Tryz.isAgg145
 z25:=Tryz.sizeOf145
 v25:=Tryz.zeroValue145
 t39:=Tryz.underlying189
 a39:=Tryz.isAgg189
 z39:=Tryz.sizeOf189
 v39:=Tryz.zeroValue189
 t45:=Tryz.underlying194
 a45:=Tryz.isAgg194
 z45:=Tryz.sizeOf194
 v45:=Tryz.zeroValue194
 t46:=Tryz.underlying195
 a46:=Tryz.isAgg195
 z46:=Tryz.sizeOf195
 v46:=Tryz.zeroValue195
 t50:=Tryz.underlying139
 a50:=Tryz.isAgg139
 z50:=Tryz.sizeOf139
 v50:=Tryz.zeroValue139
 t53:=Tryz.underlying201
 a53:=Tryz.isAgg201
 z53:=Tryz.sizeOf201
 v53:=Tryz.zeroValue201
 t55:=Tryz.underlying183
 a55:=Tryz.isAgg183
 z55:=Tryz.sizeOf183
 v55:=Tryz.zeroValue183
 t66:=Tryz.underlying203
 a66:=Tryz.isAgg203
 z66:=Tryz.sizeOf203
 v66:=Tryz.zeroValue203
 t70:=Tryz.underlying207
 a70:=Tryz.isAgg207
 z70:=Tryz.sizeOf207
 v70:=Tryz.zeroValue207
 t76:=Tryz.underlying209
 a76:=Tryz.isAgg209
 z76:=Tryz.sizeOf209
 v76:=Tryz.zeroValue209
 t77:=Tryz.underlying57
 a77:=Tryz.isAgg57
 z77:=Tryz.sizeOf57
 v77:=Tryz.zeroValue57 }
def Tryz.reverseLot_ren:Go.Shelf.Ren:=⟨fun | 35=>164 | n=>n,fun | 22=>33 | 23=>110 | 3=>3 | 4=>4 | 0=>0 | n=>n,fun | n=>n⟩
theorem Tryz.reverseLot:Go.Proofs.SlLaysE0.n35 Tryz.prog Tryz.reverseLot_ren:={
 mixed:=by kernel_rfl
 f35:=⟨Tryz.f164.name,by decide,Tryz.func164.trans (congrArg some (by kernel_rfl))⟩
 t0:=Tryz.underlying0
 a0:=Tryz.isAgg0
 z0:=Tryz.sizeOf0
 v0:=Tryz.zeroValue0
 t3:=Tryz.underlying3
 a3:=Tryz.isAgg3
 z3:=Tryz.sizeOf3
 v3:=Tryz.zeroValue3
 t4:=Tryz.underlying4
 a4:=Tryz.isAgg4
 z4:=Tryz.sizeOf4
 v4:=Tryz.zeroValue4
 t22:=Tryz.underlying33
 a22:=Tryz.isAgg33
 z22:=Tryz.sizeOf33
 v22:=Tryz.zeroValue33 }
end Go.Proofs
namespace Go.Proofs.YtmfgajbkcnlkcaaGreat.P
open Go.RowKit Go.Proofs.YtmfgajbkcnlkcaaGreatW.PrintWords Go.Proofs.YtmfgajbkcnlkcaaGreatW.PrintLast Go.Proofs.YtmfgajbkcnlkcaaGreatW.PrintMore
attribute [local go_sem] Z7 Z5 A1h A1g W9 W8 Z6 Z4   -- for this text's walks alone
set_option linter.unusedVariables false
set_option linter.unusedSimpArgs false
def L5.enc (x:S110):List Value:=[.int .i64 x.f0,.int .i64 x.f1,.int .i64 x.f2,.int .i64 x.f3,.int .i64 x.f4]
theorem L5.one (x:S110):∀ v∈L5.enc x,v.oneCell'=true:=by
 intro v hv
 simp [L5.enc] at hv
 rcases hv with rfl | rfl | rfl | rfl | rfl<;>rfl
set_option maxHeartbeats 4000000 in
theorem L5.calls (P0_:Nat→Prop) (u9000_:Value) (l0:List (S110)) (r:List (S110)) (w0 w:World) (hB:Below w0.heap.size w0 w) (ho0:Kd.R k110 110 w w0.heap.size P0_ u9000_ l0) (h:L5.f l0=some r) :
 Calls Tryz.prog 164 #[u9000_] w fun e w'=>e = .returned (.tuple #[])∧Kd.R k110 110 w' w0.heap.size (fun k_=>(P0_ k_∨w.heap.size≤k_)) u9000_ r∧Below w0.heap.size w0 w'∧Kept w w' (fun k_=>P0_ k_):=by
 unfold L5.f at h
 by_cases hh:l0.length<1048577
 ·
  rw [if_pos hh] at h;obtain rfl:=Option.some.inj h;clear h;rcases IN.R_cases ho0 with ⟨hv,hx⟩ | ⟨g,c',hv⟩
  ·
   subst hx;obtain ⟨A,c,hv2⟩:=Kd.R_slice ho0;subst hv2;have hcon:=AnyQ.slices_Reverse_empty Tryz.reverseLot A c w;change Calls Tryz.prog 164 _ _ _ at hcon
   refine hcon.mono ?_
   rintro e w' ⟨rfl,rfl⟩;exact ⟨rfl,Kd.R_mono ho0 (fun k_ hk=>.inl hk),hB,Kept.refl _ _⟩
  ·
   subst hv;obtain ⟨n1,n2,n3,n4,n5,_⟩:=IN.R_raw J8 ho0;have hraw:DG.Raw L5.enc 5 110 c' g w l0:=DG.Raw.of_R J8 ho0;have hk:∀ x:S110,(L5.enc x).length=5:=fun _=>rfl;have hcon:=AnyQ.slices_Reverse Tryz.reverseLot 5 Tryz.isAgg110 Tryz.sizeOf110 L5.enc hk L5.one g 0 c' l0.toArray w (SO.Raw.holds hraw hk) (by rw [List.size_toArray];omega)
   change Calls Tryz.prog 164 _ _ _ at hcon
   rw [List.size_toArray] at hcon;refine hcon.mono ?_
   rintro e w' ⟨rfl,n,rfl⟩;have hl:l0.reverse.length=l0.length:=List.length_reverse;have hraw2:=SO.Raw.sorted hraw hk hl n #[];have hR:=hraw2.to_R (d:=k110) J8 rfl n4 n5 (by rw [hl];exact n2) n3
   rw [hl] at hR;have hgr:=SO.grownBy_sorted (w:=w) (g:=g) (n:=n) (os:=#[]) (Sort.flatK L5.enc 5 l0.reverse.toArray)
   have ew:Sort.putRowK L5.enc 5 (Sort.ahead w n) g 0 l0.toArray.reverse=sortWorldK L5.enc 5 w g 0 n l0.reverse.toArray #[]:=by
    unfold Go.Proofs.sortWorldK
    rw [List.reverse_toArray]
    simp [Sort.grow]
   rw [ew]
   exact ⟨rfl,Kd.R_mono hR (fun k_ hk=>.inl hk),hB.grown hgr hB.size (fun k e=>by cases e;exact n4),Kept.of_grown hgr (Kept.refl w _) (fun k e=>by cases e;exact .inl n5)⟩
 ·
  rw [if_neg hh] at h;cases h
def C5.enc (x:S110):List Value:=[.int .i64 x.f0,.int .i64 x.f1,.int .i64 x.f2,.int .i64 x.f3,.int .i64 x.f4]
theorem C5.cmp_iff (x y:S110):A9.cmp x y<0↔(x.f0<y.f0∨(x.f0=y.f0∧(x.f1<y.f1∨(x.f1=y.f1∧x.f2<y.f2)))):=by
 unfold A9.cmp
 by_cases h0:x.f0<y.f0
 ·
  rw [if_pos h0];omega
 ·
  rw [if_neg h0]
  by_cases h1:y.f0<x.f0
  ·
   rw [if_pos h1];omega
  ·
   rw [if_neg h1]
   by_cases h2:x.f1<y.f1
   ·
    rw [if_pos h2];omega
   ·
    rw [if_neg h2]
    by_cases h3:y.f1<x.f1
    ·
     rw [if_pos h3];omega
    ·
     rw [if_neg h3]
     by_cases h4:x.f2<y.f2
     ·
      rw [if_pos h4];omega
     ·
      rw [if_neg h4]
      by_cases h5:y.f2<x.f2
      ·
       rw [if_pos h5];omega
      ·
       rw [if_neg h5];omega
theorem C5.lt_ (x y:S110):ltOf A9.cmp x y=decide (x.f0<y.f0∨(x.f0=y.f0∧(x.f1<y.f1∨(x.f1=y.f1∧x.f2<y.f2)))):=by
 unfold ltOf
 rw [Bool.eq_iff_iff,decide_eq_true_iff,decide_eq_true_iff]
 exact C5.cmp_iff x y
theorem C5.swo:Sort.SWO (ltOf A9.cmp) where
 irrefl x:=by rw [C5.lt_,decide_eq_false_iff_not];omega
 trans x y z h1 h2:=by rw [C5.lt_,decide_eq_true_iff] at *;omega
 ntrans x y z h1 h2:=by rw [C5.lt_,decide_eq_false_iff_not] at *;omega
theorem C5.bef (x y:S110) (W:World):Calls Tryz.prog 133 #[.agg #[.int .i64 x.f0,.int .i64 x.f1,.int .i64 x.f2,.int .i64 x.f3,.int .i64 x.f4],.agg #[.int .i64 y.f0,.int .i64 y.f1,.int .i64 y.f2,.int .i64 y.f3,.int .i64 y.f4]] W fun e w'=>e = .returned (.int .i64 (A9.cmp x y))∧∃ q os',w'=Sort.grow (W.drewN q) os':=by
 have H0:=A9.cmp_ x y;unfold L3.f at H0
 replace H0:=Option.bind_eq_some_iff.mp H0;obtain ⟨t,ht,H0⟩:=H0;have HT:=B0.mk ht;clear ht;generalize A9.cmp x y=r at H0 ⊢
 by_cases h0:t=0
 ·
  rw [if_pos h0] at H0;subst h0
  by_cases h1:x.f2<y.f2
  ·
   rw [if_pos h1] at H0;obtain rfl:=Option.some.inj H0;have c1:decide (x.f2<y.f2)=true:=decide_eq_true h1;clear H0 h1;go_enter Tryz.func133,Tryz.ntmps133;go_wp2_with (go_at_call 131;refine (F8.calls 1 _ _ _ _ _ _ HT.out).mono ?_;rintro e w' ⟨rfl,⟨nd,rfl⟩⟩)
   go_ret;exact ⟨rs_,_,_,SO.alloc2_grow _ _ _ _⟩
  ·
   rw [if_neg h1] at H0;have c1:decide (x.f2<y.f2)=false:=decide_eq_false h1
   by_cases h2:x.f2>y.f2
   ·
    rw [if_pos h2] at H0;obtain rfl:=Option.some.inj H0;have c2:decide (y.f2<x.f2)=true:=decide_eq_true h2;clear H0 h1 h2;go_enter Tryz.func133,Tryz.ntmps133;go_wp2_with (go_at_call 131;refine (F8.calls 1 _ _ _ _ _ _ HT.out).mono ?_;rintro e w' ⟨rfl,⟨nd,rfl⟩⟩)
    go_ret;exact ⟨rs_,_,_,SO.alloc2_grow _ _ _ _⟩
   ·
    rw [if_neg h2] at H0;obtain rfl:=Option.some.inj H0;have c2:decide (y.f2<x.f2)=false:=decide_eq_false h2;clear H0 h1 h2;go_enter Tryz.func133,Tryz.ntmps133;go_wp2_with (go_at_call 131;refine (F8.calls 1 _ _ _ _ _ _ HT.out).mono ?_;rintro e w' ⟨rfl,⟨nd,rfl⟩⟩)
    go_ret;exact ⟨rs_,_,_,SO.alloc2_grow _ _ _ _⟩
 ·
  rw [if_neg h0] at H0;obtain rfl:=Option.some.inj H0;have c1:(t != 0)=true:=bne_iff_ne.mpr h0;have c2:(t == 0)=false:=beq_eq_false_iff_ne.mpr h0;clear H0 h0;go_enter Tryz.func133,Tryz.ntmps133;go_wp2_with (go_at_call 131;refine (F8.calls 1 _ _ _ _ _ _ HT.out).mono ?_;rintro e w' ⟨rfl,⟨nd,rfl⟩⟩)
  go_ret;exact ⟨rs_,_,_,SO.alloc2_grow _ _ _ _⟩
theorem C5.one (x:S110):∀ v∈C5.enc x,v.oneCell'=true:=by
 intro v hv
 simp [C5.enc] at hv
 rcases hv with rfl | rfl | rfl | rfl | rfl<;>rfl
theorem C5.anti {l:List (S110)} (hu:C5.uniq l):∀ x∈l,∀ y∈l,ltOf A9.cmp x y=false→ltOf A9.cmp y x=false→x=y:=by
 intro x hx y hy h1 h2
 rw [C5.lt_,decide_eq_false_iff_not] at h1 h2
 have h3:=hu x hx y hy ⟨by omega,by omega,by omega⟩
 have e0:x.f0=y.f0:=by omega
 have e1:x.f1=y.f1:=by omega
 have e2:x.f2=y.f2:=by omega
 cases x;cases y;simp only at h3 e0 e1 e2
 rw [e0,e1,e2,h3.1,h3.2]
set_option maxHeartbeats 4000000 in
theorem C5.sort_ (A:Option Addr) (c base:Nat) (ok:Nat→Prop) (xs:List (S110)) (w:World) (ho:Kd.R k110 110 w base ok (.slice A xs.length c) xs) (hl0:xs.length<4611686018427387904) (hu:C5.uniq xs) :
 Calls Tryz.prog 185 #[.slice A xs.length c,.func (.func 133) #[] #[]] w fun e w'=>e = .returned (.tuple #[])∧Kd.R k110 110 w' base ok (.slice A xs.length c) (C5.srt xs)∧w.grownBy w' (Value.slice A xs.length c).ownBlock:=by
 rcases IN.R_cases ho with ⟨hv,hx⟩ | ⟨g,c',hv⟩
 ·
  subst hx;have hcon:=AnyF.slices_SortFunc_none Tryz.sortLot A c (.func (.func 133) #[] #[]) w;change Calls Tryz.prog 185 _ _ _ at hcon
  refine hcon.mono ?_
  rintro e w' ⟨rfl,rfl⟩;exact ⟨rfl,by simpa [C5.srt] using ho,World.grownBy.refl _ _⟩
 ·
  injection hv with hA hn hc;subst hA;subst hc;obtain ⟨n1,n2,n3,n4,n5,_⟩:=IN.R_raw J8 ho;have hraw:DG.Raw C5.enc 5 110 c g w xs:=DG.Raw.of_R J8 ho;have hk:∀ x:S110,(C5.enc x).length=5:=fun _=>rfl;have eg:∀ args w,(callFunc 133 args).run Tryz.prog w = .ok (.enter 133 args) w:=Go.Proofs.enters_of Tryz.func133 kr_ rfl;have hcon:=AnyQ.slices_SortFunc Tryz.sortLot 5 Tryz.isAgg110 Tryz.sizeOf110 C5.enc hk C5.one A9.cmp C5.swo 133 #[] g 0 c xs.toArray w eg (fun _ _ _ _ x y=>C5.bef x y _) (SO.Raw.holds hraw hk) hraw.lt (by rw [List.size_toArray];exact hl0)
  change Calls Tryz.prog 185 _ _ _ at hcon
  rw [List.size_toArray] at hcon;refine hcon.mono ?_
  rintro e w' ⟨rfl,d',n,os,hp,hs,rfl⟩
  have e1:d'.toList=C5.srt xs:=by
   have h1:=SO.sorted_one C5.swo xs.toArray d' (by simpa using C5.anti hu) (by simpa using hp) (by simpa using hs)
   exact h1
  have e2:d'=(C5.srt xs).toArray:=by rw [← e1]
  have hl:(C5.srt xs).length=xs.length:=List.length_mergeSort _;rw [e2]
  have hraw2:=SO.Raw.sorted hraw hk hl n os;have hR:=hraw2.to_R (d:=k110) J8 rfl n4 n5 (by rw [hl];exact n2) n3
  rw [hl] at hR;exact ⟨rfl,hR,SO.grownBy_sorted _⟩
theorem C5.clo (B1 B2:Nat) (a1 a2:Int) (x:S110) (W:World) (h1:W.cell? ⟨B1,0,none⟩=some (.int .i64 a1)) (h2:W.cell? ⟨B2,0,none⟩=some (.int .i64 a2)) :
 Calls Tryz.prog 184 #[.agg #[.int .i64 x.f0,.int .i64 x.f1,.int .i64 x.f2,.int .i64 x.f3,.int .i64 x.f4],.pointer (some ⟨B1,0,none⟩),.pointer (some ⟨B2,0,none⟩)] W fun e W'=>e = .returned (.bool (decide (x.f0=a1∧x.f1=a2)))∧Below W.heap.size W W':=by
 have HB:=B0.mk (Below.refl W.heap.size W);have HI:=B0.mk (F4.is_ x a1 a2);obtain ⟨q,hq⟩:∃ q,decide (x.f0=a1∧x.f1=a2)=q:=⟨_,rfl⟩;rw [hq] at HI ⊢
 clear hq;have HQ:=B0.mk (show ∀ W2,Below W.heap.size W W2→Calls Tryz.prog 171 #[.agg #[.int .i64 x.f0,.int .i64 x.f1,.int .i64 x.f2,.int .i64 x.f3,.int .i64 x.f4],.int .i64 a1,.int .i64 a2] W2 fun e W'=>e = .returned (.bool q)∧Below W2.heap.size W2 W' from fun W2 _=>W3.calls _ _ _ _ _ _ _ q W2 HI.out);have g1:=Lib.cell?_alloc_some (.cells #[.int .i64 x.f0,.int .i64 x.f1,.int .i64 x.f2,.int .i64 x.f3,.int .i64 x.f4] 110 (0,0)) h1;have g2:=Lib.cell?_alloc_some (.cells #[.int .i64 x.f0,.int .i64 x.f1,.int .i64 x.f2,.int .i64 x.f3,.int .i64 x.f4] 110 (0,0)) h2;clear h1 h2;go_enter Tryz.func184,Tryz.ntmps184;go_wp2_with (go_at_call 171;refine (HQ.out _ (I8 HB.out _)).mono ?_;rintro e w6 ⟨rfl,hb6⟩;have HB6:=B0.mk hb6;clear hb6)
 all_goals
  go_ret;exact ⟨rs_,D0 (I8 HB.out _) HB6.out⟩
theorem C5.predB {B1 B2:Nat} {a1 a2:Int} {w:World} (c1:w.cell? ⟨B1,0,none⟩=some (.int .i64 a1)) (c2:w.cell? ⟨B2,0,none⟩=some (.int .i64 a2)) :
 X0.FnB Tryz.prog 184 #[.pointer (some ⟨B1,0,none⟩),.pointer (some ⟨B2,0,none⟩)] w (fun x:S110=>.agg #[.int .i64 x.f0,.int .i64 x.f1,.int .i64 x.f2,.int .i64 x.f3,.int .i64 x.f4]) (fun x=>decide (x.f0=a1∧x.f1=a2)):=
 ⟨_,Tryz.func184,by kernel_rfl,rfl,fun x W hW=>C5.clo B1 B2 a1 a2 x W ((hW.cell (World.block_lt_of_cell? w _ c1)).trans c1) ((hW.cell (World.block_lt_of_cell? w _ c2)).trans c2)⟩
theorem C5.predG {B1 B2 g:Nat} {a1 a2:Int} {w:World} (c1:w.cell? ⟨B1,0,none⟩=some (.int .i64 a1)) (c2:w.cell? ⟨B2,0,none⟩=some (.int .i64 a2)) (n1:B1<g) (n2:B2<g) :
 DG.FnG Tryz.prog 184 #[.pointer (some ⟨B1,0,none⟩),.pointer (some ⟨B2,0,none⟩)] w g (fun x:S110=>.agg #[.int .i64 x.f0,.int .i64 x.f1,.int .i64 x.f2,.int .i64 x.f3,.int .i64 x.f4]) (fun x=>decide (x.f0=a1∧x.f1=a2)):=
 ⟨_,Tryz.func184,by kernel_rfl,rfl,fun x W hW=>C5.clo B1 B2 a1 a2 x W (hW.cell c1 (by simp;omega)) (hW.cell c2 (by simp;omega))⟩
theorem C5.calls (A0:Option Addr) (c0:Nat) (l0:List (S110)) (a1 a2:Int) (A3:Option Addr) (c3:Nat) (l3:List (S110)) (r:List (S110)) (w:World) (hr0:Kd.C k110 w A0 l0.length l0) (hc0:l0.length≤c0) (hr3:Kd.C k110 w A3 l3.length l3) (hc3:l3.length≤c3) (h:C5.f l0 a1 a2 l3=some r) :
 Calls Tryz.prog 166 #[.slice A0 l0.length c0,.int .i64 a1,.int .i64 a2,.slice A3 l3.length c3] w fun e w'=>∃ v0_:Value,e = .returned (v0_)∧Kd.R k110 110 w' w.heap.size (fun _=>True) v0_ r∧Below w.heap.size w w':=by
 unfold C5.f at h
 by_cases hh:l0.length<1048577∧l3.length<1048577∧C5.uniq (C5.rest l0 a1 a2++l3)
 ·
  rw [if_pos hh] at h;obtain rfl:=Option.some.inj h;clear h
  have hcl:J1.f l0=some l0:=by
   unfold J1.f
   rw [Option.bind_some,List.length_nil,if_pos (by omega),List.nil_append]
  have HC:=B0.mk hcl;have HR0:=B0.mk hr0;have HC0:=B0.mk hc0;have HR3:=B0.mk hr3;have HC3:=B0.mk hc3;have HB:=B0.mk (Below.refl w.heap.size w);have HL:=B0.mk hh.1
  have HL3:B0 (((C5.rest l0 a1 a2).length+l3.length)*40≤140737488355328):=⟨by
   have h1:(C5.rest l0 a1 a2).length≤l0.length:=List.length_filter_le _ _;omega⟩
  have HU:=B0.mk hh.2.2;have HF:B0 ((l0.filter fun x=>!decide (x.f0=a1∧x.f1=a2))=C5.rest l0 a1 a2):=⟨rfl⟩;clear hr0 hc0 hr3 hc3 hcl hh;generalize C5.rest l0 a1 a2=l1 at HL3 HU HF ⊢
  have HL2:B0 ((l1++l3).length<4611686018427387904):=⟨by have:=HL3.out;rw [List.length_append];omega⟩
  obtain ⟨l2,hl2⟩:∃ l2,l1++l3=l2:=⟨_,rfl⟩;rw [hl2] at HU HL2 ⊢
  have HE:=B0.mk hl2;clear hl2;go_enter Tryz.func166,Tryz.ntmps166;have hsz:=F4.up w (.cells #[.int .i64 a1] 3 (0,0)) (.cells #[.int .i64 a2] 3 (0,0))
  go_wp2_with (first | (go_at_call 100;refine (J1.calls A0 c0 l0 l0 _ (Kd.C_alloc (Kd.C_alloc HR0.out _) _) HC0.out HC.out).mono ?_;rintro e w5 ⟨v,rfl,ho,hb⟩;have HO:=B0.mk ho;have HB5:=B0.mk hb;clear ho hb) | (go_at_call 169;refine (DeleteFunc_st110.calls _ _ v l0 184 #[.pointer (some ⟨w.heap.size,0,none⟩),.pointer (some ⟨w.heap.size+1,0,none⟩)] (fun x=>decide (x.f0=a1∧x.f1=a2)) _ HO.out HL.out (C5.predB (F4.c1 HB5.out) (F4.c2 HB5.out)) (fun g _ hg=>C5.predG (F4.c1 HB5.out) (F4.c2 HB5.out) (F4.lt1 hg) (F4.lt2 hg))).mono ?_;rintro e w6 ⟨v6,rfl,ho,hg⟩;have hb5:=D0 (I8 (I8 (Below.refl _ _) _) _) HB5.out;have HB6:=B0.mk (hb5.grown hg (G4 hb5) (fun k hk=>Nat.le_trans hsz (F4.own HO.out k hk)));rw [HF.out] at ho;have HO6:=B0.mk (Kd.R_lower ho hsz);clear ho hg hb5) | ((with_reducible refine P8 (b:=.append) (xs:=#[.tmp 14,.tmp 15]) rfl ?_);at_builtin;refine Kd.R_append_rows k110 (w0:=w) w.heap.size rfl (.tmp 14) (.tmp 15) 33 110 (.agg #[(.int .i64 0),(.int .i64 0),(.int .i64 0),(.int .i64 0),(.int .i64 0)]) 40 rfl Tryz.underlying33 A1v rfl (by decide) (by omega) v6 l1 l3 _ _ _ (fun _=>True) (fun _=>False) rfl rfl HO6.out (Kd.C_below HR3.out HB6.out) (fun _ _ h=>h) (fun _ h=>h.elim) (fun _ _=>trivial) HB6.out (G4 HB6.out) HL3.out ?_;intro v7 w7 ho hb hg hat;rw [HE.out] at ho;obtain ⟨A7,c7,rfl⟩:=Kd.R_slice ho;have HO7:=B0.mk ho;have HB7:=B0.mk hb;clear ho hb hg hat) | (go_at_call 185;refine (C5.sort_ A7 c7 _ _ l2 _ HO7.out HL2.out HU.out).mono ?_;rintro e w8 ⟨rfl,ho,hg⟩;have HO8:=B0.mk ho;have HG8:=B0.mk hg;clear ho hg))
  go_ret;exact ⟨_,rs_,HO8.out,HB7.out.grown HG8.out (G4 HB7.out) (fun k hk=>F4.own HO7.out k hk)⟩
 ·
  rw [if_neg hh] at h;cases h
end Go.Proofs.YtmfgajbkcnlkcaaGreat.P
namespace Go.Proofs.YtmfgajbkcnlkcaaGreat.AI
open Go Go.RowKit Go.Proofs.YtmfgajbkcnlkcaaGreatW.PrintWords Go.Proofs.YtmfgajbkcnlkcaaGreat.P
set_option linter.unusedVariables false
set_option linter.all false
set_option maxRecDepth 100000
set_option maxHeartbeats 4000000
noncomputable section
theorem roI {g:Nat→Value} {w:World} {b i:Nat} {l:List Int}:S3 Tryz.prog g w b i (.rows 0 (Rw.eI l))↔∃ A c,g i = .slice A l.length c∧l.length≤c∧Kd.C (Kd.int .i64) w A l.length l:=by
 have h:=fun A=>X7 (f:=nI) (size:=1) (by decide) (Q:=(Kd.int .i64).K w) (fun x c=>(Iff.rfl:(Kd.int .i64).K w x c↔c=(nI x).map Sc.v)) (fun _=>rfl) (w:=w) (A:=A) (ps:=l)
 constructor
 · rintro ⟨A,c,h1,h2,h3,h4⟩;exact ⟨A,c,h1,h2,(h A).2 ⟨h3,h4⟩⟩
 · rintro ⟨A,c,h1,h2,h3⟩;exact ⟨A,c,h1,h2,((h A).1 h3).1,((h A).1 h3).2⟩
def o97 (l0:List S80) (r:(List (S80))):Out Rw:=⟨[.c (.rw 1)],[.rows 0 (.e80 l0),.rows 2 (.e80 r)]⟩
def Q97:Mean Rw:=fun k a h Z K=>match a,h with
 | [.w (.c (.rw 0))],[.rows 0 (.e80 l0)]=>(T0.f l0).bind fun r=>K (o97 l0 r)
 | _,_=>none
def q97:Cal Rw:=⟨97,false,Q97⟩
theorem d97:G8 Tryz.prog q97:=U1 ⟨_,Tryz.func97,by kernel_rfl,by kernel_rfl⟩ fun k a h Z K z e=>by
 unfold Q97 at e;split at e
 · rename_i l0
   obtain ⟨r,h,hK⟩:=Option.bind_eq_some_iff.1 e
   refine ⟨_,hK,?_⟩
   refine A1b (by simp [isRo]) fun w g hA=>?_
   obtain ⟨A0,c0,e0,hc0,hr0⟩:=ro80.1 (hA.blk 0 _ rfl)
   have hv:(List.map (H7 g) [.w (.c (.rw 0))]).toArray=#[.slice A0 l0.length c0]:=by simp [H7,O4,conc,Sc.v,e0]
   rw [hv]
   exact (T0.calls A0 c0 l0 r w hr0 hc0 h).mono fun e w' he=>he.elim fun v he=>⟨v,he.1,nw80 he.2.1,he.2.2⟩
 · cases e
def o98 (l0:List S84) (r:(List (S84))):Out Rw:=⟨[.c (.rw 1)],[.rows 0 (.e84 l0),.rows 2 (.e84 r)]⟩
def Q98:Mean Rw:=fun k a h Z K=>match a,h with
 | [.w (.c (.rw 0))],[.rows 0 (.e84 l0)]=>(U7.f l0).bind fun r=>K (o98 l0 r)
 | _,_=>none
def q98:Cal Rw:=⟨98,false,Q98⟩
theorem d98:G8 Tryz.prog q98:=U1 ⟨_,Tryz.func98,by kernel_rfl,by kernel_rfl⟩ fun k a h Z K z e=>by
 unfold Q98 at e;split at e
 · rename_i l0
   obtain ⟨r,h,hK⟩:=Option.bind_eq_some_iff.1 e
   refine ⟨_,hK,?_⟩
   refine A1b (by simp [isRo]) fun w g hA=>?_
   obtain ⟨A0,c0,e0,hc0,hr0⟩:=ro84.1 (hA.blk 0 _ rfl)
   have hv:(List.map (H7 g) [.w (.c (.rw 0))]).toArray=#[.slice A0 l0.length c0]:=by simp [H7,O4,conc,Sc.v,e0]
   rw [hv]
   exact (U7.calls A0 c0 l0 r w hr0 hc0 h).mono fun e w' he=>he.elim fun v he=>⟨v,he.1,nw84 he.2.1,he.2.2⟩
 · cases e
def o99 (l0:List S106) (r:(List (S106))):Out Rw:=⟨[.c (.rw 1)],[.rows 0 (.e106 l0),.rows 2 (.e106 r)]⟩
def Q99:Mean Rw:=fun k a h Z K=>match a,h with
 | [.w (.c (.rw 0))],[.rows 0 (.e106 l0)]=>(O2.f l0).bind fun r=>K (o99 l0 r)
 | _,_=>none
def q99:Cal Rw:=⟨99,false,Q99⟩
theorem d99:G8 Tryz.prog q99:=U1 ⟨_,Tryz.func99,by kernel_rfl,by kernel_rfl⟩ fun k a h Z K z e=>by
 unfold Q99 at e;split at e
 · rename_i l0
   obtain ⟨r,h,hK⟩:=Option.bind_eq_some_iff.1 e
   refine ⟨_,hK,?_⟩
   refine A1b (by simp [isRo]) fun w g hA=>?_
   obtain ⟨A0,c0,e0,hc0,hr0⟩:=C3q.1 (hA.blk 0 _ rfl)
   have hv:(List.map (H7 g) [.w (.c (.rw 0))]).toArray=#[.slice A0 l0.length c0]:=by simp [H7,O4,conc,Sc.v,e0]
   rw [hv]
   exact (O2.calls A0 c0 l0 r w hr0 hc0 h).mono fun e w' he=>he.elim fun v he=>⟨v,he.1,C8z he.2.1,he.2.2⟩
 · cases e
def o100 (l0:List S110) (r:(List (S110))):Out Rw:=⟨[.c (.rw 1)],[.rows 0 (.e110 l0),.rows 2 (.e110 r)]⟩
def Q100:Mean Rw:=fun k a h Z K=>match a,h with
 | [.w (.c (.rw 0))],[.rows 0 (.e110 l0)]=>(J1.f l0).bind fun r=>K (o100 l0 r)
 | _,_=>none
def q100:Cal Rw:=⟨100,false,Q100⟩
theorem d100:G8 Tryz.prog q100:=U1 ⟨_,Tryz.func100,by kernel_rfl,by kernel_rfl⟩ fun k a h Z K z e=>by
 unfold Q100 at e;split at e
 · rename_i l0
   obtain ⟨r,h,hK⟩:=Option.bind_eq_some_iff.1 e
   refine ⟨_,hK,?_⟩
   refine A1b (by simp [isRo]) fun w g hA=>?_
   obtain ⟨A0,c0,e0,hc0,hr0⟩:=B0a.1 (hA.blk 0 _ rfl)
   have hv:(List.map (H7 g) [.w (.c (.rw 0))]).toArray=#[.slice A0 l0.length c0]:=by simp [H7,O4,conc,Sc.v,e0]
   rw [hv]
   exact (J1.calls A0 c0 l0 r w hr0 hc0 h).mono fun e w' he=>he.elim fun v he=>⟨v,he.1,B8i he.2.1,he.2.2⟩
 · cases e
def o101 (l0:List S60) (r:(List (S60))):Out Rw:=⟨[.c (.rw 1)],[.rows 0 (.e60 l0),.rows 2 (.e60 r)]⟩
def Q101:Mean Rw:=fun k a h Z K=>match a,h with
 | [.w (.c (.rw 0))],[.rows 0 (.e60 l0)]=>(Z2.f l0).bind fun r=>K (o101 l0 r)
 | _,_=>none
def q101:Cal Rw:=⟨101,false,Q101⟩
theorem d101:G8 Tryz.prog q101:=U1 ⟨_,Tryz.func101,by kernel_rfl,by kernel_rfl⟩ fun k a h Z K z e=>by
 unfold Q101 at e;split at e
 · rename_i l0
   obtain ⟨r,h,hK⟩:=Option.bind_eq_some_iff.1 e
   refine ⟨_,hK,?_⟩
   refine A1b (by simp [isRo]) fun w g hA=>?_
   obtain ⟨A0,c0,e0,hc0,hr0⟩:=ro60.1 (hA.blk 0 _ rfl)
   have hv:(List.map (H7 g) [.w (.c (.rw 0))]).toArray=#[.slice A0 l0.length c0]:=by simp [H7,O4,conc,Sc.v,e0]
   rw [hv]
   exact (Z2.calls A0 c0 l0 r w hr0 hc0 h).mono fun e w' he=>he.elim fun v he=>⟨v,he.1,nw60 he.2.1,he.2.2⟩
 · cases e
def o137 (l0:List S110) (r:List (S110)):Out Rw:=⟨[.c (.rw 1)],[.rows 0 (.e110 l0),.rows 2 (.e110 r)]⟩
def Q137:Mean Rw:=fun k a h Z K=>match a,h with
 | [.w (.c (.rw 0)),.w (.c (.sc (.i .i64 a1))),.w (.c (.sc (.i .i64 a2)))],[.rows 0 (.e110 l0)]=>(F4.f l0 a1 a2).bind fun r=>K (o137 l0 r)
 | _,_=>none
def q137:Cal Rw:=⟨137,false,Q137⟩
theorem d137:G8 Tryz.prog q137:=U1 ⟨_,Tryz.func137,by kernel_rfl,by kernel_rfl⟩ fun k a h Z K z e=>by
 unfold Q137 at e;split at e
 · rename_i a1 a2 l0
   obtain ⟨r,h,hK⟩:=Option.bind_eq_some_iff.1 e
   refine ⟨_,hK,?_⟩
   refine A1b (by simp [isRo]) fun w g hA=>?_
   obtain ⟨A0,c0,e0,hc0,hr0⟩:=B0a.1 (hA.blk 0 _ rfl)
   have hv:(List.map (H7 g) [.w (.c (.rw 0)),.w (.c (.sc (.i .i64 a1))),.w (.c (.sc (.i .i64 a2)))]).toArray=#[.slice A0 l0.length c0,.int .i64 a1,.int .i64 a2]:=by simp [H7,O4,conc,Sc.v,e0]
   rw [hv]
   exact (F4.calls A0 c0 l0 a1 a2 r w hr0 hc0 h).mono fun e w' he=>he.elim fun v he=>⟨v,he.1,B8i he.2.1,he.2.2⟩
 · cases e
def o92 (l0:List S110) (r:Bool):Out Rw:=⟨[.c (.sc (.b r))],[.rows 0 (.e110 l0)]⟩
def Q92:Mean Rw:=fun k a h Z K=>match a,h with
 | [.w (.c (.rw 0))],[.rows 0 (.e110 l0)]=>(A9.f l0).bind fun r=>K (o92 l0 r)
 | _,_=>none
def q92:Cal Rw:=⟨92,false,Q92⟩
theorem d92:G8 Tryz.prog q92:=U1 ⟨_,Tryz.func92,by kernel_rfl,by kernel_rfl⟩ fun k a h Z K z e=>by
 unfold Q92 at e;split at e
 · rename_i l0
   obtain ⟨r,h,hK⟩:=Option.bind_eq_some_iff.1 e
   refine ⟨_,hK,?_⟩
   refine A6i (by simp [isRo]) (by simp [idsW,idsC]) fun w g hA=>?_
   obtain ⟨A0,c0,e0,hc0,hr0⟩:=B0a.1 (hA.blk 0 _ rfl)
   have hv:(List.map (H7 g) [.w (.c (.rw 0))]).toArray=#[.slice A0 l0.length c0]:=by simp [H7,O4,conc,Sc.v,e0]
   rw [hv]
   exact (A9.calls A0 c0 l0 r w hr0 hc0 h).mono fun e w' he=>⟨he.1,he.2⟩
 · cases e
def o96 (l0_0:List S80) (l0_1:List S84) (l0_2:List S106) (l0_3:List S110) (l0_4:List S60) (r:Bool):Out Rw:=⟨[.c (.sc (.b r))],[.rows 0 (.e80 l0_0),.rows 0 (.e84 l0_1),.rows 0 (.e106 l0_2),.rows 0 (.e110 l0_3),.rows 0 (.e60 l0_4)]⟩
def Q96:Mean Rw:=fun k a h Z K=>match a,h with
 | [.w (.ag [.rw 0,.rw 1,.rw 2,.rw 3,.rw 4,.sc (.i .i64 a0_5)])],[.rows 0 (.e80 l0_0),.rows 0 (.e84 l0_1),.rows 0 (.e106 l0_2),.rows 0 (.e110 l0_3),.rows 0 (.e60 l0_4)]=>(B9.f l0_0 l0_1 l0_2 l0_3 l0_4 a0_5).bind fun r=>K (o96 l0_0 l0_1 l0_2 l0_3 l0_4 r)
 | _,_=>none
def q96:Cal Rw:=⟨96,false,Q96⟩
theorem d96:G8 Tryz.prog q96:=U1 ⟨_,Tryz.func96,by kernel_rfl,by kernel_rfl⟩ fun k a h Z K z e=>by
 unfold Q96 at e;split at e
 · rename_i a0_5 l0_0 l0_1 l0_2 l0_3 l0_4
   obtain ⟨r,h,hK⟩:=Option.bind_eq_some_iff.1 e
   refine ⟨_,hK,?_⟩
   refine A6i (by simp [isRo]) (by simp [idsW,idsC]) fun w g hA=>?_
   obtain ⟨A0_0,c0_0,e0_0,hc0_0,hr0_0⟩:=ro80.1 (hA.blk 0 _ rfl)
   obtain ⟨A0_1,c0_1,e0_1,hc0_1,hr0_1⟩:=ro84.1 (hA.blk 1 _ rfl)
   obtain ⟨A0_2,c0_2,e0_2,hc0_2,hr0_2⟩:=C3q.1 (hA.blk 2 _ rfl)
   obtain ⟨A0_3,c0_3,e0_3,hc0_3,hr0_3⟩:=B0a.1 (hA.blk 3 _ rfl)
   obtain ⟨A0_4,c0_4,e0_4,hc0_4,hr0_4⟩:=ro60.1 (hA.blk 4 _ rfl)
   have hv:(List.map (H7 g) [.w (.ag [.rw 0,.rw 1,.rw 2,.rw 3,.rw 4,.sc (.i .i64 a0_5)])]).toArray=#[.agg #[.slice A0_0 l0_0.length c0_0,.slice A0_1 l0_1.length c0_1,.slice A0_2 l0_2.length c0_2,.slice A0_3 l0_3.length c0_3,.slice A0_4 l0_4.length c0_4,.int .i64 a0_5]]:=by simp [H7,O4,conc,Sc.v,e0_0,e0_1,e0_2,e0_3,e0_4]
   rw [hv]
   exact (B9.calls A0_0 c0_0 l0_0 A0_1 c0_1 l0_1 A0_2 c0_2 l0_2 A0_3 c0_3 l0_3 A0_4 c0_4 l0_4 a0_5 r w hr0_0 hc0_0 hr0_1 hc0_1 hr0_2 hc0_2 hr0_3 hc0_3 hr0_4 hc0_4 h).mono fun e w' he=>⟨he.1,he.2⟩
 · cases e
def o157 (l0:List S106) (r:(List (S106))):Out Rw:=⟨[.c (.rw 1)],[.rows 0 (.e106 l0),.rows 2 (.e106 r)]⟩
def Q157:Mean Rw:=fun k a h Z K=>match a,h with
 | [.w (.c (.rw 0)),.w (.c (.sc (.i .i64 a1))),.w (.c (.sc (.i .i64 a2))),.w (.c (.sc (.i .i64 a3)))],[.rows 0 (.e106 l0)]=>(T7.f k l0 a1 a2 a3).bind fun r=>K (o157 l0 r)
 | _,_=>none
def q157:Cal Rw:=⟨157,false,Q157⟩
theorem d157:G8 Tryz.prog q157:=U1 ⟨_,Tryz.func157,by kernel_rfl,by kernel_rfl⟩ fun k a h Z K z e=>by
 unfold Q157 at e;split at e
 · rename_i a1 a2 a3 l0
   obtain ⟨r,h,hK⟩:=Option.bind_eq_some_iff.1 e
   refine ⟨_,hK,?_⟩
   refine A1b (by simp [isRo]) fun w g hA=>?_
   obtain ⟨A0,c0,e0,hc0,hr0⟩:=C3q.1 (hA.blk 0 _ rfl)
   have hv:(List.map (H7 g) [.w (.c (.rw 0)),.w (.c (.sc (.i .i64 a1))),.w (.c (.sc (.i .i64 a2))),.w (.c (.sc (.i .i64 a3)))]).toArray=#[.slice A0 l0.length c0,.int .i64 a1,.int .i64 a2,.int .i64 a3]:=by simp [H7,O4,conc,Sc.v,e0]
   rw [hv]
   exact (T7.calls k A0 c0 l0 a1 a2 a3 r w hr0 hc0 h).mono fun e w' he=>he.elim fun v he=>⟨v,he.1,C8z he.2.1,he.2.2⟩
 · cases e
def o119 (l0:List S110) (r:(List (S110))×Int):Out Rw:=⟨[.c (.rw 1),.c (.sc (.i .i64 r.2))],[.rows 0 (.e110 l0),.rows 2 (.e110 r.1)]⟩
def Q119:Mean Rw:=fun k a h Z K=>match a,h with
 | [.w (.c (.rw 0)),.w (.ag [.sc (.i .i64 a1_0),.sc (.i .i64 a1_1),.sc (.i .i64 a1_2),.sc (.i .i64 a1_3),.sc (.i .i64 a1_4)])],[.rows 0 (.e110 l0)]=>(D1.f k l0 a1_0 a1_1 a1_2 a1_3 a1_4).bind fun r=>K (o119 l0 r)
 | _,_=>none
def q119:Cal Rw:=⟨119,false,Q119⟩
theorem d119:G8 Tryz.prog q119:=U1 ⟨_,Tryz.func119,by kernel_rfl,by kernel_rfl⟩ fun k a h Z K z e=>by
 unfold Q119 at e;split at e
 · rename_i a1_0 a1_1 a1_2 a1_3 a1_4 l0
   obtain ⟨⟨r1,r2⟩,h,hK⟩:=Option.bind_eq_some_iff.1 e
   refine ⟨_,hK,?_⟩
   refine B9w (by simp [isRo]) (by simp [idsW,idsC]) fun w g hA=>?_
   obtain ⟨A0,c0,e0,hc0,hr0⟩:=B0a.1 (hA.blk 0 _ rfl)
   have hv:(List.map (H7 g) [.w (.c (.rw 0)),.w (.ag [.sc (.i .i64 a1_0),.sc (.i .i64 a1_1),.sc (.i .i64 a1_2),.sc (.i .i64 a1_3),.sc (.i .i64 a1_4)])]).toArray=#[.slice A0 l0.length c0,.agg #[.int .i64 a1_0,.int .i64 a1_1,.int .i64 a1_2,.int .i64 a1_3,.int .i64 a1_4]]:=by simp [H7,O4,conc,Sc.v,e0]
   rw [hv]
   exact (D1.calls k A0 c0 l0 a1_0 a1_1 a1_2 a1_3 a1_4 r1 r2 w hr0 hc0 h).mono fun e w' he=>he.elim fun v he=>⟨v,by rw [he.1];simp [resC,O4,conc,Sc.v,U0],B8i he.2.1,he.2.2⟩
 · cases e
def o155 (l0:List S93) (r:Bool):Out Rw:=⟨[.c (.sc (.b r))],[.rows 0 (.e93 l0)]⟩
def Q155:Mean Rw:=fun k a h Z K=>match a,h with
 | [.w (.c (.rw 0))],[.rows 0 (.e93 l0)]=>(I0.f l0).bind fun r=>K (o155 l0 r)
 | _,_=>none
def q155:Cal Rw:=⟨155,false,Q155⟩
theorem d155:G8 Tryz.prog q155:=U1 ⟨_,Tryz.func155,by kernel_rfl,by kernel_rfl⟩ fun k a h Z K z e=>by
 unfold Q155 at e;split at e
 · rename_i l0
   obtain ⟨r,h,hK⟩:=Option.bind_eq_some_iff.1 e
   refine ⟨_,hK,?_⟩
   refine A6i (by simp [isRo]) (by simp [idsW,idsC]) fun w g hA=>?_
   obtain ⟨A0,c0,e0,hc0,hr0⟩:=ro93.1 (hA.blk 0 _ rfl)
   have hv:(List.map (H7 g) [.w (.c (.rw 0))]).toArray=#[.slice A0 l0.length c0]:=by simp [H7,O4,conc,Sc.v,e0]
   rw [hv]
   exact (I0.calls A0 c0 l0 r w hr0 hc0 h).mono fun e w' he=>⟨he.1,he.2⟩
 · cases e
def o70 (l0:List Int) (r:Bool):Out Rw:=⟨[.c (.sc (.b r))],[.rows 0 (.eI l0)]⟩
def Q70:Mean Rw:=fun k a h Z K=>match a,h with
 | [.w (.c (.rw 0))],[.rows 0 (.eI l0)]=>(N6.f l0).bind fun r=>K (o70 l0 r)
 | _,_=>none
def q70:Cal Rw:=⟨70,false,Q70⟩
theorem d70:G8 Tryz.prog q70:=U1 ⟨_,Tryz.func70,by kernel_rfl,by kernel_rfl⟩ fun k a h Z K z e=>by
 unfold Q70 at e;split at e
 · rename_i l0
   obtain ⟨r,h,hK⟩:=Option.bind_eq_some_iff.1 e
   refine ⟨_,hK,?_⟩
   refine A6i (by simp [isRo]) (by simp [idsW,idsC]) fun w g hA=>?_
   obtain ⟨A0,c0,e0,hc0,hr0⟩:=roI.1 (hA.blk 0 _ rfl)
   have hv:(List.map (H7 g) [.w (.c (.rw 0))]).toArray=#[.slice A0 l0.length c0]:=by simp [H7,O4,conc,Sc.v,e0]
   rw [hv]
   exact (N6.calls A0 c0 l0 r w hr0 hc0 h).mono fun e w' he=>⟨he.1,he.2⟩
 · cases e
def o166 (l0:List S110) (l3:List S110) (r:List (S110)):Out Rw:=⟨[.c (.rw 2)],[.rows 0 (.e110 l0),.rows 0 (.e110 l3),.rows 2 (.e110 r)]⟩
def Q166:Mean Rw:=fun k a h Z K=>match a,h with
 | [.w (.c (.rw 0)),.w (.c (.sc (.i .i64 a1))),.w (.c (.sc (.i .i64 a2))),.w (.c (.rw 1))],[.rows 0 (.e110 l0),.rows 0 (.e110 l3)]=>(C5.f l0 a1 a2 l3).bind fun r=>K (o166 l0 l3 r)
 | _,_=>none
def q166:Cal Rw:=⟨166,false,Q166⟩
theorem d166:G8 Tryz.prog q166:=U1 ⟨_,Tryz.func166,by kernel_rfl,by kernel_rfl⟩ fun k a h Z K z e=>by
 unfold Q166 at e;split at e
 · rename_i a1 a2 l0 l3
   obtain ⟨r,h,hK⟩:=Option.bind_eq_some_iff.1 e
   refine ⟨_,hK,?_⟩
   refine A1b (by simp [isRo]) fun w g hA=>?_
   obtain ⟨A0,c0,e0,hc0,hr0⟩:=B0a.1 (hA.blk 0 _ rfl)
   obtain ⟨A3,c3,e3,hc3,hr3⟩:=B0a.1 (hA.blk 1 _ rfl)
   have hv:(List.map (H7 g) [.w (.c (.rw 0)),.w (.c (.sc (.i .i64 a1))),.w (.c (.sc (.i .i64 a2))),.w (.c (.rw 1))]).toArray=#[.slice A0 l0.length c0,.int .i64 a1,.int .i64 a2,.slice A3 l3.length c3]:=by simp [H7,O4,conc,Sc.v,e0,e3]
   rw [hv]
   exact (C5.calls A0 c0 l0 a1 a2 A3 c3 l3 r w hr0 hc0 hr3 hc3 h).mono fun e w' he=>he.elim fun v he=>⟨v,he.1,B8i he.2.1,he.2.2⟩
 · cases e
def o164 (r:List (S110)):Out Rw:=⟨[],[.rows 1 (.e110 r)]⟩
def Q164:Mean Rw:=fun k a h Z K=>match a,h with
 | [.w (.c (.rw 0))],[.rows 1 (.e110 l0)]=>(L5.f l0).bind fun r=>K (o164 r)
 | _,_=>none
def q164:Cal Rw:=⟨164,true,Q164⟩
theorem D2u {w:World} {base:Nat} {v:Value} {l:List S110} (h:w.ownsRow base (RowT.ty (Rw.e110 l)) (Tryz.prog.cellsOf (RowT.ty (Rw.e110 l))) v (RowT.len (Rw.e110 l)) (flat (Rw.e110 l))):Kd.R k110 110 w base (fun n=>T9 v=some n) v l:=by
 rw [show Tryz.prog.cellsOf (RowT.ty (Rw.e110 l))=k110.sz from by kernel_rfl] at h
 refine ⟨fun k hk=>?_,_,h,(A0b (f:=n110) (size:=k110.sz) (Q:=k110.M w base _) (fun x c=>B5c) (fun _=>rfl)).2 rfl⟩
 rcases h.2 with ⟨hv,_⟩ | ⟨b,cap,cur,hv,hb,_⟩<;>subst hv<;>simpa [Value.ownBlock,T9] using hk
theorem d164:G8 Tryz.prog q164:=U1 ⟨_,Tryz.func164,by kernel_rfl,by kernel_rfl⟩ fun k a h Z K z e=>by
 unfold Q164 at e;split at e
 · rename_i l0
   obtain ⟨r,h,hK⟩:=Option.bind_eq_some_iff.1 e
   exact ⟨_,hK,B9x rfl fun w v ho=>(L5.calls _ v l0 r { w with heap:=#[] } w ⟨rfl,rfl,rfl,Nat.zero_le _,fun k hk=>absurd hk (Nat.not_lt_zero _)⟩ (D2u ho) h).mono fun e w' he=>⟨he.1,B8i he.2.1,he.2.2.1.os,he.2.2.1.tape,he.2.2.1.output,he.2.2.2.1,fun k hk hb=>he.2.2.2.2 k hk hb⟩⟩
 · cases e
def o207 (r:Int):Out Rw:=⟨[.c (.sc (.i .i64 r))],[]⟩
def Q207:Mean Rw:=fun k a h Z K=>match a,h with
 | [.w (.c (.sc (.i .u64 a0)))],[]=>(P9.f k a0).bind fun r=>K (o207 r)
 | _,_=>none
def q207:Cal Rw:=⟨207,false,Q207⟩
theorem d207:G8 Tryz.prog q207:=U1 ⟨_,Tryz.func207,by kernel_rfl,by kernel_rfl⟩ fun k a h Z K z e=>by
 unfold Q207 at e;split at e
 · rename_i a0
   obtain ⟨r,h,hK⟩:=Option.bind_eq_some_iff.1 e
   refine ⟨_,hK,?_⟩
   refine A6i (by simp [isRo]) (by simp [idsW,idsC]) fun w g hA=>?_
   have hv:(List.map (H7 g) [.w (.c (.sc (.i .u64 a0)))]).toArray=#[.int .u64 a0]:=by simp [H7,O4,conc,Sc.v,]
   rw [hv]
   exact (P9.calls k a0 r w h).mono fun e w' he=>⟨he.1,he.2.below⟩
 · cases e
end
end Go.Proofs.YtmfgajbkcnlkcaaGreat.AI
namespace Go.Proofs.YtmfgajbkcnlkcaaGreat.AI
open Go Go.RowKit Go.Proofs.YtmfgajbkcnlkcaaGreatW.PrintWords Go.Proofs.YtmfgajbkcnlkcaaGreat.P
set_option linter.unusedVariables false
set_option linter.all false
set_option maxRecDepth 100000
set_option maxHeartbeats 4000000
noncomputable section
def o90 (l0:List S84) (r:Bool):Out Rw:=⟨[.c (.sc (.b r))],[.rows 0 (.e84 l0)]⟩
def Q90:Mean Rw:=fun k a h Z K=>match a,h with
 | [.w (.c (.rw 0))],[.rows 0 (.e84 l0)]=>(J4.f k l0).bind fun r=>K (o90 l0 r)
 | _,_=>none
def q90:Cal Rw:=⟨90,false,Q90⟩
def O90:List (Cal Rw):=[q38,q59]
def C1l:Nat→St Rw→Option (Out Rw):=fun k st=>match st with
 | ⟨41,1,1,[(0,.w (.c (.rw 0))),(5,.w (.c (.rw 0))),(6,.w (.c (.sc (.i .i64 x6)))),(7,.w (.c (.sc (.i .i64 x7))))],[(0,.rows 0 (.e84 l0))]⟩=>(J4.l0 k l0 l0 x6 x7).bind fun r=>some (o90 l0 r)
 | _=>none
def K90:List (Cut Rw):=[⟨[false,true,false,true],[0,5,6,7],C1l⟩]
theorem D3i:HH Tryz.prog O90 K90 Tryz.f90 [false,true,false,true] C1l:=fun k st out h=>by
 unfold C1l at h;split at h
 · rename_i x6 x7 l0
   exact Lo.of (b:=(if x7<x6 then (if 0≤x7 then (if x7<(l0.length:Int) then ((I5.f (M5 l0 x7).f0).bind fun r4=>(if r4=true then ((J7.f (M5 l0 x7).f1 1 2).bind fun r5=>(if r5=true then (if x7>0 then (if 0≤RowKit.wrap64 (x7-1) then (if RowKit.wrap64 (x7-1)<(l0.length:Int) then (if (M5 l0 (RowKit.wrap64 (x7-1))).f0≥(M5 l0 x7).f0 then (some (o90 l0 false)) else ((J4.l0 k l0 l0 x6 (RowKit.wrap64 (x7+1))).bind fun r=>some (o90 l0 r))) else none) else none) else ((J4.l0 k l0 l0 x6 (RowKit.wrap64 (x7+1))).bind fun r=>some (o90 l0 r))) else (some (o90 l0 false)))) else (some (o90 l0 false)))) else none) else none) else (some (o90 l0 (decide ((l0.length:Int)≤8)))))) (by kernel_rfl) (by rw [J4.l0];exact lo_) _ h
 · cases h
theorem d90:G8 Tryz.prog q90:=fn_d (O:=O90) (cs:=K90) (C0 d38 (C0 d59 nil_)) mixed Tryz.func90 (C0 (fun st=>by show C1l 0 st=none;unfold C1l;split<;>rfl) nil_) (C0 D3i nil_) fun k a h Z K z e=>by
 unfold Q90 at e;split at e
 · rename_i l0
   exact ent e (Lo.of (b:=((J4.l0 k l0 l0 ((l0.length:Int)) 0).bind fun r=>some (o90 l0 r))) (by kernel_rfl) (by unfold J4.f;exact lo_))
 · cases e
def o91 (l0:List S106) (r:Bool):Out Rw:=⟨[.c (.sc (.b r))],[.rows 0 (.e106 l0)]⟩
def Q91:Mean Rw:=fun k a h Z K=>match a,h with
 | [.w (.c (.rw 0))],[.rows 0 (.e106 l0)]=>(G5.f k l0).bind fun r=>K (o91 l0 r)
 | _,_=>none
def q91:Cal Rw:=⟨91,false,Q91⟩
def O91:List (Cal Rw):=[q38,q130,q131]
def C1k:Nat→St Rw→Option (Out Rw):=fun k st=>match st with
 | ⟨59,1,1,[(0,.w (.c (.rw 0))),(5,.w (.c (.rw 0))),(6,.w (.c (.sc (.i .i64 x6)))),(7,.w (.c (.sc (.i .i64 x7))))],[(0,.rows 0 (.e106 l0))]⟩=>(G5.l0 k l0 l0 x6 x7).bind fun r=>some (o91 l0 r)
 | _=>none
def C1j:Nat→St Rw→Option (Out Rw):=fun k st=>match st with
 | ⟨59,1,2,[(0,.w (.c (.rw 0))),(3,.w (.c (.sc (.i .i64 x3)))),(4,.pt 1 0),(5,.w (.c (.rw 0))),(6,.w (.c (.sc (.i .i64 x6)))),(7,.w (.c (.sc (.i .i64 x7)))),(32,.w (.c (.sc (.b x32))))],[(0,.rows 0 (.e106 l0)),(1,.box 106 [.sc (.i .i64 b1_0),.sc (.i .i64 b1_1),.sc (.i .i64 b1_2)])]⟩=>(G5.j1 k l0 x3 l0 x6 x7 x32 b1_0 b1_1 b1_2).bind fun r=>some (o91 l0 r)
 | _=>none
def K91:List (Cut Rw):=[⟨[false,true,false,true],[0,5,6,7],C1k⟩,⟨[true,false,true,false,false,true,true,false,false,true,false,true],[0,3,4,5,6,7,32],C1j⟩]
theorem D3h:HH Tryz.prog O91 K91 Tryz.f91 [false,true,false,true] C1k:=fun k st out h=>by
 unfold C1k at h;split at h
 · rename_i x6 x7 l0
   exact Lo.of (b:=(if x7<x6 then (if 0≤x7 then (if x7<(l0.length:Int) then ((I5.f (C8 l0 x7).f0).bind fun r4=>(if r4=true then ((I5.f (C8 l0 x7).f1).bind fun r5=>(if r5=true then ((L7.f (C8 l0 x7).f2).bind fun r6=>(if r6=true then ((G5.j1 k l0 x7 l0 x6 x7 (decide ((C8 l0 x7).f2=0)) ((C8 l0 x7).f0) ((C8 l0 x7).f1) ((C8 l0 x7).f2)).bind fun r=>some (o91 l0 r)) else ((G5.j1 k l0 x7 l0 x6 x7 true ((C8 l0 x7).f0) ((C8 l0 x7).f1) ((C8 l0 x7).f2)).bind fun r=>some (o91 l0 r)))) else ((G5.j1 k l0 x7 l0 x6 x7 true ((C8 l0 x7).f0) ((C8 l0 x7).f1) ((C8 l0 x7).f2)).bind fun r=>some (o91 l0 r)))) else ((G5.j1 k l0 x7 l0 x6 x7 true ((C8 l0 x7).f0) ((C8 l0 x7).f1) ((C8 l0 x7).f2)).bind fun r=>some (o91 l0 r)))) else none) else none) else (some (o91 l0 (decide ((l0.length:Int)≤160)))))) (by kernel_rfl) (by rw [G5.l0];exact lo_) _ h
 · cases h
theorem D3g:HH Tryz.prog O91 K91 Tryz.f91 [true,false,true,false,false,true,true,false,false,true,false,true] C1j:=fun k st out h=>by
 unfold C1j at h;split at h
 · rename_i x3 x6 x7 x32 l0 b1_0 b1_1 b1_2
   exact Lo.of (b:=(if x32=true then (some (o91 l0 false)) else (if x3>0 then (if 0≤RowKit.wrap64 (x3-1) then (if RowKit.wrap64 (x3-1)<(l0.length:Int) then (if 0≤RowKit.wrap64 (x3-1) then (if RowKit.wrap64 (x3-1)<(l0.length:Int) then ((F8.f k (C8 l0 (RowKit.wrap64 (x3-1))).f0 (C8 l0 (RowKit.wrap64 (x3-1))).f1 b1_0 b1_1).bind fun r9=>(if r9≥0 then (some (o91 l0 false)) else ((G5.l0 k l0 l0 x6 (RowKit.wrap64 (x7+1))).bind fun r=>some (o91 l0 r)))) else none) else none) else none) else none) else ((G5.l0 k l0 l0 x6 (RowKit.wrap64 (x7+1))).bind fun r=>some (o91 l0 r))))) (by kernel_rfl) (by rw [G5.j1];exact lo_) _ h
 · cases h
theorem d91:G8 Tryz.prog q91:=fn_d (O:=O91) (cs:=K91) (C0 d38 (C0 d130 (C0 d131 nil_))) mixed Tryz.func91 (C0 (fun st=>by show C1k 0 st=none;unfold C1k;split<;>rfl) (C0 (fun st=>by show C1j 0 st=none;unfold C1j;split<;>rfl) nil_)) (C0 D3h (C0 D3g nil_)) fun k a h Z K z e=>by
 unfold Q91 at e;split at e
 · rename_i l0
   exact ent e (Lo.of (b:=((G5.l0 k l0 l0 ((l0.length:Int)) 0).bind fun r=>some (o91 l0 r))) (by kernel_rfl) (by unfold G5.f;exact lo_))
 · cases e
def o93 (l0:List S60) (r:Bool):Out Rw:=⟨[.c (.sc (.b r))],[.rows 0 (.e60 l0)]⟩
def Q93:Mean Rw:=fun k a h Z K=>match a,h with
 | [.w (.c (.rw 0))],[.rows 0 (.e60 l0)]=>(D8.f k l0).bind fun r=>K (o93 l0 r)
 | _,_=>none
def q93:Cal Rw:=⟨93,false,Q93⟩
def O93:List (Cal Rw):=[q38,q59]
def C1i:Nat→St Rw→Option (Out Rw):=fun k st=>match st with
 | ⟨82,1,1,[(0,.w (.c (.rw 0))),(5,.w (.c (.rw 0))),(6,.w (.c (.sc (.i .i64 x6)))),(7,.w (.c (.sc (.i .i64 x7))))],[(0,.rows 0 (.e60 l0))]⟩=>(D8.l0 k l0 l0 x6 x7).bind fun r=>some (o93 l0 r)
 | _=>none
def C1h:Nat→St Rw→Option (Out Rw):=fun k st=>match st with
 | ⟨82,1,2,[(0,.w (.c (.rw 0))),(3,.w (.c (.sc (.i .i64 x3)))),(4,.pt 1 0),(5,.w (.c (.rw 0))),(6,.w (.c (.sc (.i .i64 x6)))),(7,.w (.c (.sc (.i .i64 x7)))),(46,.w (.c (.sc (.b x46))))],[(0,.rows 0 (.e60 l0)),(1,.box 60 [.sc (.i .i64 b1_0),.sc (.i .i64 b1_1),.sc (.i .i64 b1_2),.sc (.i .i64 b1_3),.sc (.i .i64 b1_4),.sc (.i .i64 b1_5),.sc (.i .i64 b1_6),.sc (.i .i64 b1_7)])]⟩=>(D8.j1 k l0 x3 l0 x6 x7 x46 b1_0 b1_1 b1_2 b1_3 b1_4 b1_5 b1_6 b1_7).bind fun r=>some (o93 l0 r)
 | _=>none
def K93:List (Cut Rw):=[⟨[false,true,false,true],[0,5,6,7],C1i⟩,⟨[true,false,true,false,false,true,true,false,false,true,false,true],[0,3,4,5,6,7,46],C1h⟩]
theorem D3f:HH Tryz.prog O93 K93 Tryz.f93 [false,true,false,true] C1i:=fun k st out h=>by
 unfold C1i at h;split at h
 · rename_i x6 x7 l0
   exact Lo.of (b:=(if x7<x6 then (if 0≤x7 then (if x7<(l0.length:Int) then ((I5.f (B7 l0 x7).f0).bind fun r4=>(if r4=true then ((I5.f (B7 l0 x7).f1).bind fun r5=>(if r5=true then ((I5.f (B7 l0 x7).f2).bind fun r6=>(if r6=true then ((I5.f (B7 l0 x7).f3).bind fun r7=>(if r7=true then ((I5.f (B7 l0 x7).f5).bind fun r8=>(if r8=true then ((D8.j1 k l0 x7 l0 x6 x7 (decide ((B7 l0 x7).f1=(B7 l0 x7).f2)) ((B7 l0 x7).f0) ((B7 l0 x7).f1) ((B7 l0 x7).f2) ((B7 l0 x7).f3) ((B7 l0 x7).f4) ((B7 l0 x7).f5) ((B7 l0 x7).f6) ((B7 l0 x7).f7)).bind fun r=>some (o93 l0 r)) else ((D8.j1 k l0 x7 l0 x6 x7 true ((B7 l0 x7).f0) ((B7 l0 x7).f1) ((B7 l0 x7).f2) ((B7 l0 x7).f3) ((B7 l0 x7).f4) ((B7 l0 x7).f5) ((B7 l0 x7).f6) ((B7 l0 x7).f7)).bind fun r=>some (o93 l0 r)))) else ((D8.j1 k l0 x7 l0 x6 x7 true ((B7 l0 x7).f0) ((B7 l0 x7).f1) ((B7 l0 x7).f2) ((B7 l0 x7).f3) ((B7 l0 x7).f4) ((B7 l0 x7).f5) ((B7 l0 x7).f6) ((B7 l0 x7).f7)).bind fun r=>some (o93 l0 r)))) else ((D8.j1 k l0 x7 l0 x6 x7 true ((B7 l0 x7).f0) ((B7 l0 x7).f1) ((B7 l0 x7).f2) ((B7 l0 x7).f3) ((B7 l0 x7).f4) ((B7 l0 x7).f5) ((B7 l0 x7).f6) ((B7 l0 x7).f7)).bind fun r=>some (o93 l0 r)))) else ((D8.j1 k l0 x7 l0 x6 x7 true ((B7 l0 x7).f0) ((B7 l0 x7).f1) ((B7 l0 x7).f2) ((B7 l0 x7).f3) ((B7 l0 x7).f4) ((B7 l0 x7).f5) ((B7 l0 x7).f6) ((B7 l0 x7).f7)).bind fun r=>some (o93 l0 r)))) else ((D8.j1 k l0 x7 l0 x6 x7 true ((B7 l0 x7).f0) ((B7 l0 x7).f1) ((B7 l0 x7).f2) ((B7 l0 x7).f3) ((B7 l0 x7).f4) ((B7 l0 x7).f5) ((B7 l0 x7).f6) ((B7 l0 x7).f7)).bind fun r=>some (o93 l0 r)))) else none) else none) else (some (o93 l0 (decide ((l0.length:Int)≤30)))))) (by kernel_rfl) (by rw [D8.l0];exact lo_) _ h
 · cases h
theorem D3e:HH Tryz.prog O93 K93 Tryz.f93 [true,false,true,false,false,true,true,false,false,true,false,true] C1h:=fun k st out h=>by
 unfold C1h at h;split at h
 · rename_i x3 x6 x7 x46 l0 b1_0 b1_1 b1_2 b1_3 b1_4 b1_5 b1_6 b1_7
   exact Lo.of (b:=(if x46=true then (some (o93 l0 false)) else ((J7.f b1_4 1 1000000000000000).bind fun r14=>(if r14=true then ((J7.f b1_6 0 1000000000000000).bind fun r15=>(if r15=true then ((J7.f b1_7 1 3).bind fun r16=>(if r16=true then (if x3>0 then (if 0≤RowKit.wrap64 (x3-1) then (if RowKit.wrap64 (x3-1)<(l0.length:Int) then (if (B7 l0 (RowKit.wrap64 (x3-1))).f0≥b1_0 then (some (o93 l0 false)) else ((D8.l0 k l0 l0 x6 (RowKit.wrap64 (x7+1))).bind fun r=>some (o93 l0 r))) else none) else none) else ((D8.l0 k l0 l0 x6 (RowKit.wrap64 (x7+1))).bind fun r=>some (o93 l0 r))) else (some (o93 l0 false)))) else (some (o93 l0 false)))) else (some (o93 l0 false)))))) (by kernel_rfl) (by rw [D8.j1];exact lo_) _ h
 · cases h
theorem d93:G8 Tryz.prog q93:=fn_d (O:=O93) (cs:=K93) (C0 d38 (C0 d59 nil_)) mixed Tryz.func93 (C0 (fun st=>by show C1i 0 st=none;unfold C1i;split<;>rfl) (C0 (fun st=>by show C1h 0 st=none;unfold C1h;split<;>rfl) nil_)) (C0 D3f (C0 D3e nil_)) fun k a h Z K z e=>by
 unfold Q93 at e;split at e
 · rename_i l0
   exact ent e (Lo.of (b:=((D8.l0 k l0 l0 ((l0.length:Int)) 0).bind fun r=>some (o93 l0 r))) (by kernel_rfl) (by unfold D8.f;exact lo_))
 · cases e
def o138 (l0:List S106) (r:Int):Out Rw:=⟨[.c (.sc (.i .i64 r))],[.rows 0 (.e106 l0)]⟩
def Q138:Mean Rw:=fun k a h Z K=>match a,h with
 | [.w (.c (.rw 0)),.w (.c (.sc (.i .i64 a1)))],[.rows 0 (.e106 l0)]=>(H8.f k l0 a1).bind fun r=>K (o138 l0 r)
 | _,_=>none
def q138:Cal Rw:=⟨138,false,Q138⟩
def O138:List (Cal Rw):=[]
def B2n:Nat→St Rw→Option (Out Rw):=fun k st=>match st with
 | ⟨24,1,1,[(1,.w (.c (.sc (.i .i64 x1)))),(5,.w (.c (.sc (.i .i64 x5)))),(8,.w (.c (.rw 0))),(9,.w (.c (.sc (.i .i64 x9)))),(10,.w (.c (.sc (.i .i64 x10))))],[(0,.rows 0 (.e106 l0))]⟩=>(H8.l0 k x1 x5 l0 x9 x10).bind fun r=>some (o138 l0 r)
 | _=>none
def K138:List (Cut Rw):=[⟨[false,true,false,true,true],[1,5,8,9,10],B2n⟩]
theorem D0u:HH Tryz.prog O138 K138 Tryz.f138 [false,true,false,true,true] B2n:=fun k st out h=>by
 unfold B2n at h;split at h
 · rename_i x1 x5 x9 x10 l0
   exact Lo.of (b:=(if x10<x9 then (if 0≤x10 then (if x10<(l0.length:Int) then (if (C8 l0 x10).f1=x1 then ((H8.l0 k x1 (RowKit.wrap64 (x5+(C8 l0 x10).f2)) l0 x9 (RowKit.wrap64 (x10+1))).bind fun r=>some (o138 l0 r)) else ((H8.l0 k x1 x5 l0 x9 (RowKit.wrap64 (x10+1))).bind fun r=>some (o138 l0 r))) else none) else none) else (some (o138 l0 x5)))) (by kernel_rfl) (by rw [H8.l0];exact lo_) _ h
 · cases h
theorem d138:G8 Tryz.prog q138:=fn_d (O:=O138) (cs:=K138) nil_ mixed Tryz.func138 (C0 (fun st=>by show B2n 0 st=none;unfold B2n;split<;>rfl) nil_) (C0 D0u nil_) fun k a h Z K z e=>by
 unfold Q138 at e;split at e
 · rename_i a1 l0
   exact ent e (Lo.of (b:=((H8.l0 k a1 0 l0 ((l0.length:Int)) 0).bind fun r=>some (o138 l0 r))) (by kernel_rfl) (by unfold H8.f;exact lo_))
 · cases e
def o94 (l0_0:List S80) (l0_1:List S84) (l0_2:List S106) (l0_3:List S110) (l0_4:List S60) (r:Bool):Out Rw:=⟨[.c (.sc (.b r))],[.rows 0 (.e80 l0_0),.rows 0 (.e84 l0_1),.rows 0 (.e106 l0_2),.rows 0 (.e110 l0_3),.rows 0 (.e60 l0_4)]⟩
def Q94:Mean Rw:=fun k a h Z K=>match a,h with
 | [.w (.ag [.rw 0,.rw 1,.rw 2,.rw 3,.rw 4,.sc (.i .i64 a0_5)])],[.rows 0 (.e80 l0_0),.rows 0 (.e84 l0_1),.rows 0 (.e106 l0_2),.rows 0 (.e110 l0_3),.rows 0 (.e60 l0_4)]=>(F9.f k l0_0 l0_1 l0_2 l0_3 l0_4 a0_5).bind fun r=>K (o94 l0_0 l0_1 l0_2 l0_3 l0_4 r)
 | _,_=>none
def q94:Cal Rw:=⟨94,false,Q94⟩
def O94:List (Cal Rw):=[q108,q110,q138]
def C1g:Nat→St Rw→Option (Out Rw):=fun k st=>match st with
 | ⟨46,5,6,[(1,.pt 5 0),(7,.w (.c (.rw 2))),(8,.w (.c (.sc (.i .i64 x8)))),(9,.w (.c (.sc (.i .i64 x9))))],[(0,.rows 0 (.e80 l0_0)),(1,.rows 0 (.e84 l0_1)),(2,.rows 0 (.e106 l0_2)),(3,.rows 0 (.e110 l0_3)),(4,.rows 0 (.e60 l0_4)),(5,.box 36 [.rw 0,.rw 1,.rw 2,.rw 3,.rw 4,.sc (.i .i64 b5_5)])]⟩=>(F9.l0 k l0_2 x8 x9 l0_0 l0_1 l0_2 l0_3 l0_4 b5_5).bind fun r=>some (o94 l0_0 l0_1 l0_2 l0_3 l0_4 r)
 | _=>none
def K94:List (Cut Rw):=[⟨[false,true,false,true],[1,7,8,9],C1g⟩]
theorem D3d:HH Tryz.prog O94 K94 Tryz.f94 [false,true,false,true] C1g:=fun k st out h=>by
 unfold C1g at h;split at h
 · rename_i x8 x9 l0_0 l0_1 l0_2 l0_3 l0_4 b5_5
   exact Lo.of (b:=(if x9<x8 then (if 0≤x9 then (if x9<(l0_2.length:Int) then ((D3.f k l0_0 (C8 l0_2 x9).f0).bind fun r9=>(if r9=0 then (some (o94 l0_0 l0_1 l0_2 l0_3 l0_4 false)) else ((E8.f k l0_1 (C8 l0_2 x9).f1).bind fun r10=>(if r10=0 then (some (o94 l0_0 l0_1 l0_2 l0_3 l0_4 false)) else (if r9=1 then (if (C8 l0_2 x9).f2<0 then (some (o94 l0_0 l0_1 l0_2 l0_3 l0_4 false)) else ((H8.f k l0_2 (C8 l0_2 x9).f1).bind fun r11=>(if r11=0 then ((F9.l0 k l0_2 x8 (RowKit.wrap64 (x9+1)) l0_0 l0_1 l0_2 l0_3 l0_4 b5_5).bind fun r=>some (o94 l0_0 l0_1 l0_2 l0_3 l0_4 r)) else (some (o94 l0_0 l0_1 l0_2 l0_3 l0_4 false))))) else ((H8.f k l0_2 (C8 l0_2 x9).f1).bind fun r11=>(if r11=0 then ((F9.l0 k l0_2 x8 (RowKit.wrap64 (x9+1)) l0_0 l0_1 l0_2 l0_3 l0_4 b5_5).bind fun r=>some (o94 l0_0 l0_1 l0_2 l0_3 l0_4 r)) else (some (o94 l0_0 l0_1 l0_2 l0_3 l0_4 false))))))))) else none) else none) else (some (o94 l0_0 l0_1 l0_2 l0_3 l0_4 true)))) (by kernel_rfl) (by rw [F9.l0];exact lo_) _ h
 · cases h
theorem d94:G8 Tryz.prog q94:=fn_d (O:=O94) (cs:=K94) (C0 d108 (C0 d110 (C0 d138 nil_))) mixed Tryz.func94 (C0 (fun st=>by show C1g 0 st=none;unfold C1g;split<;>rfl) nil_) (C0 D3d nil_) fun k a h Z K z e=>by
 unfold Q94 at e;split at e
 · rename_i a0_5 l0_0 l0_1 l0_2 l0_3 l0_4
   exact ent e (Lo.of (b:=((F9.l0 k l0_2 ((l0_2.length:Int)) 0 l0_0 l0_1 l0_2 l0_3 l0_4 a0_5).bind fun r=>some (o94 l0_0 l0_1 l0_2 l0_3 l0_4 r))) (by kernel_rfl) (by unfold F9.f;exact lo_))
 · cases e
def o139 (l0:List S106) (r:Int):Out Rw:=⟨[.c (.sc (.i .i64 r))],[.rows 0 (.e106 l0)]⟩
def Q139:Mean Rw:=fun k a h Z K=>match a,h with
 | [.w (.c (.rw 0)),.w (.c (.sc (.i .i64 a1))),.w (.c (.sc (.i .i64 a2)))],[.rows 0 (.e106 l0)]=>(R7.f k l0 a1 a2).bind fun r=>K (o139 l0 r)
 | _,_=>none
def q139:Cal Rw:=⟨139,false,Q139⟩
def O139:List (Cal Rw):=[q172]
def K139:List (Cut Rw):=[]
theorem d139:G8 Tryz.prog q139:=fn_d (O:=O139) (cs:=K139) (C0 d172 nil_) mixed Tryz.func139 nil_ nil_ fun k a h Z K z e=>by
 unfold Q139 at e;split at e
 · rename_i a1 a2 l0
   exact ent e (Lo.of (b:=((M0.f k l0 a1 a2).bind fun r4=>(if r4.2=true then (if 0≤r4.1 then (if r4.1<(l0.length:Int) then (some (o139 l0 ((C8 l0 r4.1).f2))) else none) else none) else (some (o139 l0 0))))) (by kernel_rfl) (by unfold R7.f;exact lo_))
 · cases e
def o95 (l0_0:List S80) (l0_1:List S84) (l0_2:List S106) (l0_3:List S110) (l0_4:List S60) (r:Bool):Out Rw:=⟨[.c (.sc (.b r))],[.rows 0 (.e80 l0_0),.rows 0 (.e84 l0_1),.rows 0 (.e106 l0_2),.rows 0 (.e110 l0_3),.rows 0 (.e60 l0_4)]⟩
def Q95:Mean Rw:=fun k a h Z K=>match a,h with
 | [.w (.ag [.rw 0,.rw 1,.rw 2,.rw 3,.rw 4,.sc (.i .i64 a0_5)])],[.rows 0 (.e80 l0_0),.rows 0 (.e84 l0_1),.rows 0 (.e106 l0_2),.rows 0 (.e110 l0_3),.rows 0 (.e60 l0_4)]=>(C6.f k l0_0 l0_1 l0_2 l0_3 l0_4 a0_5).bind fun r=>K (o95 l0_0 l0_1 l0_2 l0_3 l0_4 r)
 | _,_=>none
def q95:Cal Rw:=⟨95,false,Q95⟩
def O95:List (Cal Rw):=[q108,q110,q137,q136,q139]
def C1f:Nat→St Rw→Option (Out Rw):=fun k st=>match st with
 | ⟨84,5,6,[(1,.pt 5 0),(12,.w (.c (.rw 3))),(13,.w (.c (.sc (.i .i64 x13)))),(14,.w (.c (.sc (.i .i64 x14))))],[(0,.rows 0 (.e80 l0_0)),(1,.rows 0 (.e84 l0_1)),(2,.rows 0 (.e106 l0_2)),(3,.rows 0 (.e110 l0_3)),(4,.rows 0 (.e60 l0_4)),(5,.box 36 [.rw 0,.rw 1,.rw 2,.rw 3,.rw 4,.sc (.i .i64 b5_5)])]⟩=>(C6.l0 k l0_3 x13 x14 l0_0 l0_1 l0_2 l0_3 l0_4 b5_5).bind fun r=>some (o95 l0_0 l0_1 l0_2 l0_3 l0_4 r)
 | _=>none
def C1e:Nat→St Rw→Option (Out Rw):=fun k st=>match st with
 | ⟨84,5,6,[(1,.pt 5 0),(41,.w (.c (.rw 0))),(42,.w (.c (.sc (.i .i64 x42)))),(43,.w (.c (.sc (.i .i64 x43))))],[(0,.rows 0 (.e80 l0_0)),(1,.rows 0 (.e84 l0_1)),(2,.rows 0 (.e106 l0_2)),(3,.rows 0 (.e110 l0_3)),(4,.rows 0 (.e60 l0_4)),(5,.box 36 [.rw 0,.rw 1,.rw 2,.rw 3,.rw 4,.sc (.i .i64 b5_5)])]⟩=>(C6.l1 k l0_0 x42 x43 l0_0 l0_1 l0_2 l0_3 l0_4 b5_5).bind fun r=>some (o95 l0_0 l0_1 l0_2 l0_3 l0_4 r)
 | _=>none
def C1d:Nat→St Rw→Option (Out Rw):=fun k st=>match st with
 | ⟨84,5,7,[(1,.pt 5 0),(6,.pt 6 0),(41,.w (.c (.rw 0))),(42,.w (.c (.sc (.i .i64 x42)))),(43,.w (.c (.sc (.i .i64 x43)))),(48,.w (.c (.rw 1))),(49,.w (.c (.sc (.i .i64 x49)))),(50,.w (.c (.sc (.i .i64 x50))))],[(0,.rows 0 (.e80 l0_0)),(1,.rows 0 (.e84 l0_1)),(2,.rows 0 (.e106 l0_2)),(3,.rows 0 (.e110 l0_3)),(4,.rows 0 (.e60 l0_4)),(5,.box 36 [.rw 0,.rw 1,.rw 2,.rw 3,.rw 4,.sc (.i .i64 b5_5)]),(6,.box 80 [.sc (.i .i64 b6_0),.sc (.i .i64 b6_1)])]⟩=>(C6.l2 k l0_0 x42 x43 l0_1 x49 x50 l0_0 l0_1 l0_2 l0_3 l0_4 b5_5 b6_0 b6_1).bind fun r=>some (o95 l0_0 l0_1 l0_2 l0_3 l0_4 r)
 | _=>none
def C1c:Nat→St Rw→Option (Out Rw):=fun k st=>match st with
 | ⟨84,5,8,[(1,.pt 5 0),(6,.pt 6 0),(8,.pt 7 0),(41,.w (.c (.rw 0))),(42,.w (.c (.sc (.i .i64 x42)))),(43,.w (.c (.sc (.i .i64 x43)))),(48,.w (.c (.rw 1))),(49,.w (.c (.sc (.i .i64 x49)))),(50,.w (.c (.sc (.i .i64 x50)))),(61,.w (.c (.sc (.b x61))))],[(0,.rows 0 (.e80 l0_0)),(1,.rows 0 (.e84 l0_1)),(2,.rows 0 (.e106 l0_2)),(3,.rows 0 (.e110 l0_3)),(4,.rows 0 (.e60 l0_4)),(5,.box 36 [.rw 0,.rw 1,.rw 2,.rw 3,.rw 4,.sc (.i .i64 b5_5)]),(6,.box 80 [.sc (.i .i64 b6_0),.sc (.i .i64 b6_1)]),(7,.box 84 [.sc (.i .i64 b7_0),.sc (.i .i64 b7_1)])]⟩=>(C6.j3 k l0_0 x42 x43 l0_1 x49 x50 x61 l0_0 l0_1 l0_2 l0_3 l0_4 b5_5 b6_0 b6_1 b7_0 b7_1).bind fun r=>some (o95 l0_0 l0_1 l0_2 l0_3 l0_4 r)
 | _=>none
def K95:List (Cut Rw):=[⟨[false,true,false,true],[1,12,13,14],C1f⟩,⟨[false,true,false,true,true],[1,41,42,43],C1e⟩,⟨[false,true,true,false,false,true,true,false,false,true,false,true,true],[1,6,41,42,43,48,49,50],C1d⟩,⟨[true,false,true,false,false,true,true,false,false,true,true,false,false,true,true,false,false,true,false,true,true],[1,6,8,41,42,43,48,49,50,61],C1c⟩]
theorem D3c:HH Tryz.prog O95 K95 Tryz.f95 [false,true,false,true] C1f:=fun k st out h=>by
 unfold C1f at h;split at h
 · rename_i x13 x14 l0_0 l0_1 l0_2 l0_3 l0_4 b5_5
   exact Lo.of (b:=(if x14<x13 then (if 0≤x14 then (if x14<(l0_3.length:Int) then ((D3.f k l0_0 (A4 l0_3 x14).f0).bind fun r9=>(if r9=1 then ((E8.f k l0_1 (A4 l0_3 x14).f1).bind fun r10=>(if r10=2 then (if (A4 l0_3 x14).f2>b5_5 then (some (o95 l0_0 l0_1 l0_2 l0_3 l0_4 false)) else ((C6.l0 k l0_3 x13 (RowKit.wrap64 (x14+1)) l0_0 l0_1 l0_2 l0_3 l0_4 b5_5).bind fun r=>some (o95 l0_0 l0_1 l0_2 l0_3 l0_4 r))) else (some (o95 l0_0 l0_1 l0_2 l0_3 l0_4 false)))) else (some (o95 l0_0 l0_1 l0_2 l0_3 l0_4 false)))) else none) else none) else ((C6.l1 k l0_0 ((l0_0.length:Int)) 0 l0_0 l0_1 l0_2 l0_3 l0_4 b5_5).bind fun r=>some (o95 l0_0 l0_1 l0_2 l0_3 l0_4 r)))) (by kernel_rfl) (by rw [C6.l0];exact lo_) _ h
 · cases h
theorem D3b:HH Tryz.prog O95 K95 Tryz.f95 [false,true,false,true,true] C1e:=fun k st out h=>by
 unfold C1e at h;split at h
 · rename_i x42 x43 l0_0 l0_1 l0_2 l0_3 l0_4 b5_5
   exact Lo.of (b:=(if x43<x42 then (if 0≤x43 then (if x43<(l0_0.length:Int) then ((C6.l2 k l0_0 x42 x43 l0_1 ((l0_1.length:Int)) 0 l0_0 l0_1 l0_2 l0_3 l0_4 b5_5 ((M2 l0_0 x43).f0) ((M2 l0_0 x43).f1)).bind fun r=>some (o95 l0_0 l0_1 l0_2 l0_3 l0_4 r)) else none) else none) else (some (o95 l0_0 l0_1 l0_2 l0_3 l0_4 true)))) (by kernel_rfl) (by rw [C6.l1];exact lo_) _ h
 · cases h
theorem D3a:HH Tryz.prog O95 K95 Tryz.f95 [false,true,true,false,false,true,true,false,false,true,false,true,true] C1d:=fun k st out h=>by
 unfold C1d at h;split at h
 · rename_i x42 x43 x49 x50 l0_0 l0_1 l0_2 l0_3 l0_4 b5_5 b6_0 b6_1
   exact Lo.of (b:=(if x50<x49 then (if 0≤x50 then (if x50<(l0_1.length:Int) then (if b6_1=1 then ((C6.j3 k l0_0 x42 x43 l0_1 x49 x50 (!decide ((M5 l0_1 x50).f1=2)) l0_0 l0_1 l0_2 l0_3 l0_4 b5_5 b6_0 b6_1 ((M5 l0_1 x50).f0) ((M5 l0_1 x50).f1)).bind fun r=>some (o95 l0_0 l0_1 l0_2 l0_3 l0_4 r)) else ((C6.j3 k l0_0 x42 x43 l0_1 x49 x50 true l0_0 l0_1 l0_2 l0_3 l0_4 b5_5 b6_0 b6_1 ((M5 l0_1 x50).f0) ((M5 l0_1 x50).f1)).bind fun r=>some (o95 l0_0 l0_1 l0_2 l0_3 l0_4 r))) else none) else none) else ((C6.l1 k l0_0 x42 (RowKit.wrap64 (x43+1)) l0_0 l0_1 l0_2 l0_3 l0_4 b5_5).bind fun r=>some (o95 l0_0 l0_1 l0_2 l0_3 l0_4 r)))) (by kernel_rfl) (by rw [C6.l2];exact lo_) _ h
 · cases h
theorem D2z:HH Tryz.prog O95 K95 Tryz.f95 [true,false,true,false,false,true,true,false,false,true,true,false,false,true,true,false,false,true,false,true,true] C1c:=fun k st out h=>by
 unfold C1c at h;split at h
 · rename_i x42 x43 x49 x50 x61 l0_0 l0_1 l0_2 l0_3 l0_4 b5_5 b6_0 b6_1 b7_0 b7_1
   exact Lo.of (b:=(if x61=true then ((C6.l2 k l0_0 x42 x43 l0_1 x49 (RowKit.wrap64 (x50+1)) l0_0 l0_1 l0_2 l0_3 l0_4 b5_5 b6_0 b6_1).bind fun r=>some (o95 l0_0 l0_1 l0_2 l0_3 l0_4 r)) else ((F4.f l0_3 b6_0 b7_0).bind fun r16=>((H3.f k r16).bind fun r17=>((R7.f k l0_2 b6_0 b7_0).bind fun r18=>(if r17.1=r18 then ((C6.l2 k l0_0 x42 x43 l0_1 x49 (RowKit.wrap64 (x50+1)) l0_0 l0_1 l0_2 l0_3 l0_4 b5_5 b6_0 b6_1).bind fun r=>some (o95 l0_0 l0_1 l0_2 l0_3 l0_4 r)) else (some (o95 l0_0 l0_1 l0_2 l0_3 l0_4 false)))))))) (by kernel_rfl) (by rw [C6.j3];exact lo_) _ h
 · cases h
theorem d95:G8 Tryz.prog q95:=fn_d (O:=O95) (cs:=K95) (C0 d108 (C0 d110 (C0 d137 (C0 d136 (C0 d139 nil_))))) mixed Tryz.func95 (C0 (fun st=>by show C1f 0 st=none;unfold C1f;split<;>rfl) (C0 (fun st=>by show C1e 0 st=none;unfold C1e;split<;>rfl) (C0 (fun st=>by show C1d 0 st=none;unfold C1d;split<;>rfl) (C0 (fun st=>by show C1c 0 st=none;unfold C1c;split<;>rfl) nil_)))) (C0 D3c (C0 D3b (C0 D3a (C0 D2z nil_)))) fun k a h Z K z e=>by
 unfold Q95 at e;split at e
 · rename_i a0_5 l0_0 l0_1 l0_2 l0_3 l0_4
   exact ent e (Lo.of (b:=((C6.l0 k l0_3 ((l0_3.length:Int)) 0 l0_0 l0_1 l0_2 l0_3 l0_4 a0_5).bind fun r=>some (o95 l0_0 l0_1 l0_2 l0_3 l0_4 r))) (by kernel_rfl) (by unfold C6.f;exact lo_))
 · cases e
def o37 (l0_0:List S80) (l0_1:List S84) (l0_2:List S106) (l0_3:List S110) (l0_4:List S60) (r:Bool):Out Rw:=⟨[.c (.sc (.b r))],[.rows 0 (.e80 l0_0),.rows 0 (.e84 l0_1),.rows 0 (.e106 l0_2),.rows 0 (.e110 l0_3),.rows 0 (.e60 l0_4)]⟩
def Q37:Mean Rw:=fun k a h Z K=>match a,h with
 | [.w (.ag [.rw 0,.rw 1,.rw 2,.rw 3,.rw 4,.sc (.i .i64 a0_5)])],[.rows 0 (.e80 l0_0),.rows 0 (.e84 l0_1),.rows 0 (.e106 l0_2),.rows 0 (.e110 l0_3),.rows 0 (.e60 l0_4)]=>(J6.f k l0_0 l0_1 l0_2 l0_3 l0_4 a0_5).bind fun r=>K (o37 l0_0 l0_1 l0_2 l0_3 l0_4 r)
 | _,_=>none
def q37:Cal Rw:=⟨37,false,Q37⟩
def O37:List (Cal Rw):=[q89,q90,q91,q92,q93,q59,q94,q95,q96]
def C2v:Nat→St Rw→Option (Out Rw):=fun k st=>match st with
 | ⟨47,5,6,[(1,.pt 5 0),(36,.w (.c (.sc (.b x36))))],[(0,.rows 0 (.e80 l0_0)),(1,.rows 0 (.e84 l0_1)),(2,.rows 0 (.e106 l0_2)),(3,.rows 0 (.e110 l0_3)),(4,.rows 0 (.e60 l0_4)),(5,.box 36 [.rw 0,.rw 1,.rw 2,.rw 3,.rw 4,.sc (.i .i64 b5_5)])]⟩=>(J6.j0 k x36 l0_0 l0_1 l0_2 l0_3 l0_4 b5_5).bind fun r=>some (o37 l0_0 l0_1 l0_2 l0_3 l0_4 r)
 | _=>none
def K37:List (Cut Rw):=[⟨[true,false,true],[1,36],C2v⟩]
theorem D4s:HH Tryz.prog O37 K37 Tryz.f37 [true,false,true] C2v:=fun k st out h=>by
 unfold C2v at h;split at h
 · rename_i x36 l0_0 l0_1 l0_2 l0_3 l0_4 b5_5
   exact Lo.of (b:=(if x36=true then (some (o37 l0_0 l0_1 l0_2 l0_3 l0_4 false)) else ((F9.f k l0_0 l0_1 l0_2 l0_3 l0_4 b5_5).bind fun r8=>(if r8=true then ((C6.f k l0_0 l0_1 l0_2 l0_3 l0_4 b5_5).bind fun r9=>(if r9=true then ((B9.f l0_0 l0_1 l0_2 l0_3 l0_4 b5_5).bind fun r10=>(some (o37 l0_0 l0_1 l0_2 l0_3 l0_4 r10))) else (some (o37 l0_0 l0_1 l0_2 l0_3 l0_4 false)))) else (some (o37 l0_0 l0_1 l0_2 l0_3 l0_4 false)))))) (by kernel_rfl) (by rw [J6.j0];exact lo_) _ h
 · cases h
theorem d37:G8 Tryz.prog q37:=fn_d (O:=O37) (cs:=K37) (C0 d89 (C0 d90 (C0 d91 (C0 d92 (C0 d93 (C0 d59 (C0 d94 (C0 d95 (C0 d96 nil_))))))))) mixed Tryz.func37 (C0 (fun st=>by show C2v 0 st=none;unfold C2v;split<;>rfl) nil_) (C0 D4s nil_) fun k a h Z K z e=>by
 unfold Q37 at e;split at e
 · rename_i a0_5 l0_0 l0_1 l0_2 l0_3 l0_4
   exact ent e (Lo.of (b:=((H4.f k l0_0).bind fun r7=>(if r7=true then ((J4.f k l0_1).bind fun r8=>(if r8=true then ((G5.f k l0_2).bind fun r9=>(if r9=true then ((A9.f l0_3).bind fun r10=>(if r10=true then ((D8.f k l0_4).bind fun r11=>(if r11=true then ((J7.f a0_5 0 1000000000).bind fun r12=>((J6.j0 k (!decide (r12=true)) l0_0 l0_1 l0_2 l0_3 l0_4 a0_5).bind fun r=>some (o37 l0_0 l0_1 l0_2 l0_3 l0_4 r))) else ((J6.j0 k true l0_0 l0_1 l0_2 l0_3 l0_4 a0_5).bind fun r=>some (o37 l0_0 l0_1 l0_2 l0_3 l0_4 r)))) else ((J6.j0 k true l0_0 l0_1 l0_2 l0_3 l0_4 a0_5).bind fun r=>some (o37 l0_0 l0_1 l0_2 l0_3 l0_4 r)))) else ((J6.j0 k true l0_0 l0_1 l0_2 l0_3 l0_4 a0_5).bind fun r=>some (o37 l0_0 l0_1 l0_2 l0_3 l0_4 r)))) else ((J6.j0 k true l0_0 l0_1 l0_2 l0_3 l0_4 a0_5).bind fun r=>some (o37 l0_0 l0_1 l0_2 l0_3 l0_4 r)))) else ((J6.j0 k true l0_0 l0_1 l0_2 l0_3 l0_4 a0_5).bind fun r=>some (o37 l0_0 l0_1 l0_2 l0_3 l0_4 r))))) (by kernel_rfl) (by unfold J6.f;exact lo_))
 · cases e
def o39 (l0_0:List S80) (l0_1:List S84) (l0_2:List S106) (l0_3:List S110) (l0_4:List S60) (r:(List (S80))×(List (S84))×(List (S106))×(List (S110))×(List (S60))×Int):Out Rw:=⟨[.ag [.rw 5,.rw 6,.rw 7,.rw 8,.rw 9,.sc (.i .i64 r.2.2.2.2.2)]],[.rows 0 (.e80 l0_0),.rows 0 (.e84 l0_1),.rows 0 (.e106 l0_2),.rows 0 (.e110 l0_3),.rows 0 (.e60 l0_4),.rows 2 (.e80 r.1),.rows 2 (.e84 r.2.1),.rows 2 (.e106 r.2.2.1),.rows 2 (.e110 r.2.2.2.1),.rows 2 (.e60 r.2.2.2.2.1)]⟩
def Q39:Mean Rw:=fun k a h Z K=>match a,h with
 | [.w (.ag [.rw 0,.rw 1,.rw 2,.rw 3,.rw 4,.sc (.i .i64 a0_5)])],[.rows 0 (.e80 l0_0),.rows 0 (.e84 l0_1),.rows 0 (.e106 l0_2),.rows 0 (.e110 l0_3),.rows 0 (.e60 l0_4)]=>(E9.f l0_0 l0_1 l0_2 l0_3 l0_4 a0_5).bind fun r=>K (o39 l0_0 l0_1 l0_2 l0_3 l0_4 r)
 | _,_=>none
def q39:Cal Rw:=⟨39,false,Q39⟩
def O39:List (Cal Rw):=[q97,q98,q99,q100,q101]
def K39:List (Cut Rw):=[]
theorem d39:G8 Tryz.prog q39:=fn_d (O:=O39) (cs:=K39) (C0 d97 (C0 d98 (C0 d99 (C0 d100 (C0 d101 nil_))))) mixed Tryz.func39 nil_ nil_ fun k a h Z K z e=>by
 unfold Q39 at e;split at e
 · rename_i a0_5 l0_0 l0_1 l0_2 l0_3 l0_4
   exact ent e (Lo.of (b:=((T0.f l0_0).bind fun r7=>((U7.f l0_1).bind fun r8=>((O2.f l0_2).bind fun r9=>((J1.f l0_3).bind fun r10=>((Z2.f l0_4).bind fun r11=>(some (o39 l0_0 l0_1 l0_2 l0_3 l0_4 (r7,r8,r9,r10,r11,a0_5))))))))) (by kernel_rfl) (by unfold E9.f;exact lo_))
 · cases e
def W60 (k:Nat) (d:Int) (l0:List S80) (l1:List S84) (l2:List S106) (l3:List S110) (l4:List S60) (a1:Int) (Z:Type) (K:Out Rw→Option Z):Option Z:=((D3.f k l0 a1).bind fun r8=>(K ⟨[.c (.sc (.i .i64 r8))],[.box 36 [.rw 1,.rw 2,.rw 3,.rw 4,.rw 5,.sc (.i .i64 d)],.rows 0 (.e80 l0),.rows 0 (.e84 l1),.rows 0 (.e106 l2),.rows 0 (.e110 l3),.rows 0 (.e60 l4)]⟩))
def Q60:Mean Rw:=fun k a h Z K=>match a,h with
 | [.pt 0 0,.w (.c (.sc (.i .i64 a1)))],[.box 36 [.rw 1,.rw 2,.rw 3,.rw 4,.rw 5,.sc (.i .i64 d)],.rows 0 (.e80 l0),.rows 0 (.e84 l1),.rows 0 (.e106 l2),.rows 0 (.e110 l3),.rows 0 (.e60 l4)]=>W60 k d l0 l1 l2 l3 l4 a1 Z K
 | _,_=>none
def q60:Cal Rw:=⟨60,false,Q60⟩
def O60:List (Cal Rw):=[q108]
theorem d60:G8 Tryz.prog q60:=fn_d (O:=O60) (cs:=[]) (C0 d108 nil_) mixed Tryz.func60 nil_ nil_ fun k a h Z K z e=>by
 unfold Q60 at e;split at e
 · rename_i a1 d l0 l1 l2 l3 l4
   exact tk_ (x:=W60 k d l0 l1 l2 l3 l4 a1 _ some) e (by kernel_rfl) (by unfold W60;exact tkw_)
 · cases e
def W64 (k:Nat) (d:Int) (l0:List S80) (l1:List S84) (l2:List S106) (l3:List S110) (l4:List S60) (a1:Int) (Z:Type) (K:Out Rw→Option Z):Option Z:=((E8.f k l1 a1).bind fun r8=>(K ⟨[.c (.sc (.b (!decide (r8=0))))],[.box 36 [.rw 1,.rw 2,.rw 3,.rw 4,.rw 5,.sc (.i .i64 d)],.rows 0 (.e80 l0),.rows 0 (.e84 l1),.rows 0 (.e106 l2),.rows 0 (.e110 l3),.rows 0 (.e60 l4)]⟩))
def Q64:Mean Rw:=fun k a h Z K=>match a,h with
 | [.pt 0 0,.w (.c (.sc (.i .i64 a1)))],[.box 36 [.rw 1,.rw 2,.rw 3,.rw 4,.rw 5,.sc (.i .i64 d)],.rows 0 (.e80 l0),.rows 0 (.e84 l1),.rows 0 (.e106 l2),.rows 0 (.e110 l3),.rows 0 (.e60 l4)]=>W64 k d l0 l1 l2 l3 l4 a1 Z K
 | _,_=>none
def q64:Cal Rw:=⟨64,false,Q64⟩
def O64:List (Cal Rw):=[q110]
theorem d64:G8 Tryz.prog q64:=fn_d (O:=O64) (cs:=[]) (C0 d110 nil_) mixed Tryz.func64 nil_ nil_ fun k a h Z K z e=>by
 unfold Q64 at e;split at e
 · rename_i a1 d l0 l1 l2 l3 l4
   exact tk_ (x:=W64 k d l0 l1 l2 l3 l4 a1 _ some) e (by kernel_rfl) (by unfold W64;exact tkw_)
 · cases e
def o156 (l0:List S93) (r:Bool):Out Rw:=⟨[.c (.sc (.b r))],[.rows 0 (.e93 l0)]⟩
def Q156:Mean Rw:=fun k a h Z K=>match a,h with
 | [.w (.c (.rw 0))],[.rows 0 (.e93 l0)]=>(H6.f k l0).bind fun r=>K (o156 l0 r)
 | _,_=>none
def q156:Cal Rw:=⟨156,false,Q156⟩
def O156:List (Cal Rw):=[q155]
def B2e:Nat→St Rw→Option (Out Rw):=fun k st=>match st with
 | ⟨36,1,1,[(0,.w (.c (.rw 0))),(11,.w (.c (.rw 0))),(12,.w (.c (.sc (.i .i64 x12)))),(13,.w (.c (.sc (.i .i64 x13))))],[(0,.rows 0 (.e93 l0))]⟩=>(H6.l0 k l0 l0 x12 x13).bind fun r=>some (o156 l0 r)
 | _=>none
def B2d:Nat→St Rw→Option (Out Rw):=fun k st=>match st with
 | ⟨36,1,2,[(0,.w (.c (.rw 0))),(4,.pt 1 0),(5,.w (.c (.sc (.i .i64 x5)))),(11,.w (.c (.rw 0))),(12,.w (.c (.sc (.i .i64 x12)))),(13,.w (.c (.sc (.i .i64 x13)))),(17,.w (.c (.rw 0))),(18,.w (.c (.sc (.i .i64 x18)))),(19,.w (.c (.sc (.i .i64 x19))))],[(0,.rows 0 (.e93 l0)),(1,.box 93 [.sc (.i .i64 b1_0),.sc (.i .i64 b1_1),.sc (.i .i64 b1_2)])]⟩=>(H6.l1 k l0 x5 l0 x12 x13 l0 x18 x19 b1_0 b1_1 b1_2).bind fun r=>some (o156 l0 r)
 | _=>none
def K156:List (Cut Rw):=[⟨[false,true,false,true,true],[0,11,12,13],B2e⟩,⟨[false,true,false,true,true,false,false,true,true,false,false,true,false,true,true],[0,4,5,11,12,13,17,18,19],B2d⟩]
theorem D0l:HH Tryz.prog O156 K156 Tryz.f156 [false,true,false,true,true] B2e:=fun k st out h=>by
 unfold B2e at h;split at h
 · rename_i x12 x13 l0
   exact Lo.of (b:=(if x13<x12 then (if 0≤x13 then (if x13<(l0.length:Int) then ((H6.l1 k l0 0 l0 x12 x13 l0 ((l0.length:Int)) 0 ((K2 l0 x13).f0) ((K2 l0 x13).f1) ((K2 l0 x13).f2)).bind fun r=>some (o156 l0 r)) else none) else none) else (some (o156 l0 true)))) (by kernel_rfl) (by rw [H6.l0];exact lo_) _ h
 · cases h
theorem D0k:HH Tryz.prog O156 K156 Tryz.f156 [false,true,false,true,true,false,false,true,true,false,false,true,false,true,true] B2d:=fun k st out h=>by
 unfold B2d at h;split at h
 · rename_i x5 x12 x13 x18 x19 l0 b1_0 b1_1 b1_2
   exact Lo.of (b:=(if x19<x18 then (if 0≤x19 then (if x19<(l0.length:Int) then (if (K2 l0 x19).f1=b1_1 then ((H6.l1 k l0 (RowKit.wrap64 (x5+(K2 l0 x19).f2)) l0 x12 x13 l0 x18 (RowKit.wrap64 (x19+1)) b1_0 b1_1 b1_2).bind fun r=>some (o156 l0 r)) else ((H6.l1 k l0 x5 l0 x12 x13 l0 x18 (RowKit.wrap64 (x19+1)) b1_0 b1_1 b1_2).bind fun r=>some (o156 l0 r))) else none) else none) else (if x5=0 then ((H6.l0 k l0 l0 x12 (RowKit.wrap64 (x13+1))).bind fun r=>some (o156 l0 r)) else (some (o156 l0 false))))) (by kernel_rfl) (by rw [H6.l1];exact lo_) _ h
 · cases h
theorem d156:G8 Tryz.prog q156:=fn_d (O:=O156) (cs:=K156) (C0 d155 nil_) mixed Tryz.func156 (C0 (fun st=>by show B2e 0 st=none;unfold B2e;split<;>rfl) (C0 (fun st=>by show B2d 0 st=none;unfold B2d;split<;>rfl) nil_)) (C0 D0l (C0 D0k nil_)) fun k a h Z K z e=>by
 unfold Q156 at e;split at e
 · rename_i l0
   exact ent e (Lo.of (b:=((I0.f l0).bind fun r2=>(if r2=true then ((H6.l0 k l0 l0 ((l0.length:Int)) 0).bind fun r=>some (o156 l0 r)) else (some (o156 l0 false))))) (by kernel_rfl) (by unfold H6.f;exact lo_))
 · cases e
def o179 (l0:List Int) (r:Int):Out Rw:=⟨[.c (.sc (.i .i64 r))],[.rows 0 (.eI l0)]⟩
def Q179:Mean Rw:=fun k a h Z K=>match a,h with
 | [.w (.c (.rw 0)),.w (.c (.sc (.i .i64 a1)))],[.rows 0 (.eI l0)]=>(G9.f k l0 a1).bind fun r=>K (o179 l0 r)
 | _,_=>none
def q179:Cal Rw:=⟨179,false,Q179⟩
def O179:List (Cal Rw):=[]
def B1x:Nat→St Rw→Option (Out Rw):=fun k st=>match st with
 | ⟨19,1,1,[(0,.w (.c (.rw 0))),(1,.w (.c (.sc (.i .i64 x1)))),(7,.w (.c (.sc (.i .i64 x7)))),(8,.w (.c (.sc (.i .i64 x8))))],[(0,.rows 0 (.eI l0))]⟩=>(G9.l0 k l0 x1 x7 x8).bind fun r=>some (o179 l0 r)
 | _=>none
def K179:List (Cut Rw):=[⟨[false,true,false,true],[0,1,7,8],B1x⟩]
theorem D0e:HH Tryz.prog O179 K179 Tryz.f179 [false,true,false,true] B1x:=fun k st out h=>by
 unfold B1x at h;split at h
 · rename_i x1 x7 x8 l0
   exact Lo.of (b:=(if x8<x7 then (if 0≤x8 then (if x8<(l0.length:Int) then (if x1=l0.getD x8.toNat 0 then (some (o179 l0 x8)) else ((G9.l0 k l0 x1 x7 (RowKit.wrap64 (x8+1))).bind fun r=>some (o179 l0 r))) else none) else none) else (some (o179 l0 (-1))))) (by kernel_rfl) (by rw [G9.l0];exact lo_) _ h
 · cases h
theorem d179:G8 Tryz.prog q179:=fn_d (O:=O179) (cs:=K179) nil_ mixed Tryz.func179 (C0 (fun st=>by show B1x 0 st=none;unfold B1x;split<;>rfl) nil_) (C0 D0e nil_) fun k a h Z K z e=>by
 unfold Q179 at e;split at e
 · rename_i a1 l0
   exact ent e (Lo.of (b:=((G9.l0 k l0 a1 ((l0.length:Int)) 0).bind fun r=>some (o179 l0 r))) (by kernel_rfl) (by unfold G9.f;exact lo_))
 · cases e
def o158 (l0:List Int) (r:Bool):Out Rw:=⟨[.c (.sc (.b r))],[.rows 0 (.eI l0)]⟩
def Q158:Mean Rw:=fun k a h Z K=>match a,h with
 | [.w (.c (.rw 0)),.w (.c (.sc (.i .i64 a1)))],[.rows 0 (.eI l0)]=>(O1.f k l0 a1).bind fun r=>K (o158 l0 r)
 | _,_=>none
def q158:Cal Rw:=⟨158,false,Q158⟩
def O158:List (Cal Rw):=[q179]
def K158:List (Cut Rw):=[]
theorem d158:G8 Tryz.prog q158:=fn_d (O:=O158) (cs:=K158) (C0 d179 nil_) mixed Tryz.func158 nil_ nil_ fun k a h Z K z e=>by
 unfold Q158 at e;split at e
 · rename_i a1 l0
   exact ent e (Lo.of (b:=((G9.f k l0 a1).bind fun r3=>(some (o158 l0 (decide (r3≥0)))))) (by kernel_rfl) (by unfold O1.f;exact lo_))
 · cases e
end
end Go.Proofs.YtmfgajbkcnlkcaaGreat.AI
namespace Go.Proofs.YtmfgajbkcnlkcaaGreat.AI
open Go Go.RowKit Go.Proofs.YtmfgajbkcnlkcaaGreatW.PrintWords Go.Proofs.YtmfgajbkcnlkcaaGreat.P
set_option linter.unusedVariables false
set_option linter.all false
set_option maxRecDepth 100000
set_option maxHeartbeats 4000000
noncomputable section
def o117 (l0:List S106) (l1:List S93) (l2:List Int) (r:(List (S106))×Int):Out Rw:=⟨[.c (.rw 3),.c (.sc (.i .i64 r.2))],[.rows 0 (.e106 l0),.rows 0 (.e93 l1),.rows 0 (.eI l2),.rows 2 (.e106 r.1)]⟩
def Q117:Mean Rw:=fun k a h Z K=>match a,h with
 | [.w (.c (.rw 0)),.w (.c (.rw 1)),.w (.c (.rw 2))],[.rows 0 (.e106 l0),.rows 0 (.e93 l1),.rows 0 (.eI l2)]=>(D9.f k l0 l1 l2).bind fun r=>K (o117 l0 l1 l2 r)
 | _,_=>none
def q117:Cal Rw:=⟨117,false,Q117⟩
def O117:List (Cal Rw):=[q91,q155,q99,q156,q139,q130,q157,q158]
def B3b:Nat→St Rw→Option (Out Rw):=fun k st=>match st with
 | ⟨90,3,3,[(0,.w (.c (.rw 0))),(1,.w (.c (.rw 1))),(2,.w (.c (.rw 2))),(27,.w (.c (.sc (.b x27))))],[(0,.rows 0 (.e106 l0)),(1,.rows 0 (.e93 l1)),(2,.rows 0 (.eI l2))]⟩=>(D9.j0 k l0 l1 l2 x27).bind fun r=>some (o117 l0 l1 l2 r)
 | _=>none
def B3a:Nat→St Rw→Option (Out Rw):=fun k st=>match st with
 | ⟨90,3,5,[(1,.w (.c (.rw 1))),(2,.w (.c (.rw 2))),(8,.w (.c (.rw 3))),(9,.w (.c (.rw 4))),(36,.w (.c (.rw 1))),(37,.w (.c (.sc (.i .i64 x37)))),(38,.w (.c (.sc (.i .i64 x38))))],[(0,.rows 0 (.e106 l0)),(1,.rows 0 (.e93 l1)),(2,.rows 0 (.eI l2)),(3,.rows 2 (.e106 y3)),(4,.rows 2 (.e106 y4))]⟩=>(D9.l0 k l1 l2 y3 y4 l1 x37 x38).bind fun r=>some (o117 l0 l1 l2 r)
 | _=>none
def B2z:Nat→St Rw→Option (Out Rw):=fun k st=>match st with
 | ⟨90,3,5,[(2,.w (.c (.rw 2))),(8,.w (.c (.rw 3))),(9,.w (.c (.rw 4))),(63,.w (.c (.rw 1))),(64,.w (.c (.sc (.i .i64 x64)))),(65,.w (.c (.sc (.i .i64 x65))))],[(0,.rows 0 (.e106 l0)),(1,.rows 0 (.e93 l1)),(2,.rows 0 (.eI l2)),(3,.rows 2 (.e106 y3)),(4,.rows 2 (.e106 y4))]⟩=>(D9.l1 k l2 y3 y4 l1 x64 x65).bind fun r=>some (o117 l0 l1 l2 r)
 | _=>none
def K117:List (Cut Rw):=[⟨[true,false,true],[0,1,2,27],B3b⟩,⟨[false,true,false,true,true,true,true,true],[1,2,8,9,36,37,38],B3a⟩,⟨[false,true,false,true,true,true,true,true,true],[2,8,9,63,64,65],B2z⟩]
theorem D1i:HH Tryz.prog O117 K117 Tryz.f117 [true,false,true] B3b:=fun k st out h=>by
 unfold B3b at h;split at h
 · rename_i x27 l0 l1 l2
   exact Lo.of (b:=(if x27=true then (some (o117 l0 l1 l2 ([],1))) else ((O2.f l0).bind fun r5=>((H6.f k l1).bind fun r6=>(if r6=true then ((O2.f l0).bind fun r7=>((D9.l0 k l1 l2 r5 r7 l1 ((l1.length:Int)) 0).bind fun r=>some (o117 l0 l1 l2 r))) else (some (o117 l0 l1 l2 (r5,2)))))))) (by kernel_rfl) (by rw [D9.j0];exact lo_) _ h
 · cases h
theorem D1h:HH Tryz.prog O117 K117 Tryz.f117 [false,true,false,true,true,true,true,true] B3a:=fun k st out h=>by
 unfold B3a at h;split at h
 · rename_i x37 x38 l0 l1 l2 y3 y4
   exact Lo.of (b:=(if x38<x37 then (if 0≤x38 then (if x38<(l1.length:Int) then ((R7.f k y4 (K2 l1 x38).f0 (K2 l1 x38).f1).bind fun r8=>((L7.f (RowKit.wrap64 (r8+(K2 l1 x38).f2))).bind fun r9=>(if r9=true then ((T7.f k y4 (K2 l1 x38).f0 (K2 l1 x38).f1 (RowKit.wrap64 (r8+(K2 l1 x38).f2))).bind fun r10=>((D9.l0 k l1 l2 y3 r10 l1 x37 (RowKit.wrap64 (x38+1))).bind fun r=>some (o117 l0 l1 l2 r))) else (some (o117 l0 l1 l2 (y3,4)))))) else none) else none) else ((D9.l1 k l2 y3 y4 l1 ((l1.length:Int)) 0).bind fun r=>some (o117 l0 l1 l2 r)))) (by kernel_rfl) (by rw [D9.l0];exact lo_) _ h
 · cases h
theorem D1g:HH Tryz.prog O117 K117 Tryz.f117 [false,true,false,true,true,true,true,true,true] B2z:=fun k st out h=>by
 unfold B2z at h;split at h
 · rename_i x64 x65 l0 l1 l2 y3 y4
   exact Lo.of (b:=(if x65<x64 then (if 0≤x65 then (if x65<(l1.length:Int) then ((O1.f k l2 (K2 l1 x65).f0).bind fun r8=>(if r8=true then ((D9.l1 k l2 y3 y4 l1 x64 (RowKit.wrap64 (x65+1))).bind fun r=>some (o117 l0 l1 l2 r)) else ((R7.f k y4 (K2 l1 x65).f0 (K2 l1 x65).f1).bind fun r9=>(if r9<0 then (some (o117 l0 l1 l2 (y3,3))) else ((D9.l1 k l2 y3 y4 l1 x64 (RowKit.wrap64 (x65+1))).bind fun r=>some (o117 l0 l1 l2 r)))))) else none) else none) else (if (y4.length:Int)>160 then (some (o117 l0 l1 l2 (y3,5))) else (some (o117 l0 l1 l2 (y4,0)))))) (by kernel_rfl) (by rw [D9.l1];exact lo_) _ h
 · cases h
theorem d117:G8 Tryz.prog q117:=fn_d (O:=O117) (cs:=K117) (C0 d91 (C0 d155 (C0 d99 (C0 d156 (C0 d139 (C0 d130 (C0 d157 (C0 d158 nil_)))))))) mixed Tryz.func117 (C0 (fun st=>by show B3b 0 st=none;unfold B3b;split<;>rfl) (C0 (fun st=>by show B3a 0 st=none;unfold B3a;split<;>rfl) (C0 (fun st=>by show B2z 0 st=none;unfold B2z;split<;>rfl) nil_))) (C0 D1i (C0 D1h (C0 D1g nil_))) fun k a h Z K z e=>by
 unfold Q117 at e;split at e
 · rename_i l0 l1 l2
   exact ent e (Lo.of (b:=((G5.f k l0).bind fun r4=>(if r4=true then ((I0.f l1).bind fun r5=>(if r5=true then ((D9.j0 k l0 l1 l2 (decide ((l2.length:Int)>20))).bind fun r=>some (o117 l0 l1 l2 r)) else ((D9.j0 k l0 l1 l2 true).bind fun r=>some (o117 l0 l1 l2 r)))) else ((D9.j0 k l0 l1 l2 true).bind fun r=>some (o117 l0 l1 l2 r))))) (by kernel_rfl) (by unfold D9.f;exact lo_))
 · cases e
def o118 (r:Int):Out Rw:=⟨[.c (.sc (.i .i64 r))],[]⟩
def Q118:Mean Rw:=fun k a h Z K=>match a,h with
 | [.w (.c (.sc (.i .i64 a0)))],[]=>(R8.f a0).bind fun r=>K (o118 r)
 | _,_=>none
def q118:Cal Rw:=⟨118,false,Q118⟩
def O118:List (Cal Rw):=[]
def K118:List (Cut Rw):=[]
theorem d118:G8 Tryz.prog q118:=fn_d (O:=O118) (cs:=K118) nil_ mixed Tryz.func118 nil_ nil_ fun k a h Z K z e=>by
 unfold Q118 at e;split at e
 · rename_i a0
   exact ent e (Lo.of (b:=(if a0=0 then (some (o118 0)) else (if a0=3 then (some (o118 5)) else (if a0=4 then (some (o118 8)) else (if a0=5 then (some (o118 7)) else (some (o118 1))))))) (by kernel_rfl) (by unfold R8.f;exact lo_))
 · cases e
def W72 (k:Nat) (d:Int) (l0:List S80) (l1:List S84) (l2:List S106) (l3:List S110) (l4:List S60) (l5:List S93) (Z:Type) (K:Out Rw→Option Z):Option Z:=((R3.l0 k d l0 l1 l2 l3 l4 l5 ((l0.length:Int)) 0 ([])).bind fun r=>(if r.1=true then K ⟨[.c (.sc (.i .i64 r.2.2))],[.box 36 [.rw 1,.rw 2,.rw 7,.rw 4,.rw 5,.sc (.i .i64 d)],.rows 0 (.e80 l0),.rows 0 (.e84 l1),.rows 0 (.e106 l2),.rows 0 (.e110 l3),.rows 0 (.e60 l4),.rows 0 (.e93 l5),.rows 2 (.e106 r.2.1)]⟩ else K ⟨[.c (.sc (.i .i64 r.2.2))],[.box 36 [.rw 1,.rw 2,.rw 3,.rw 4,.rw 5,.sc (.i .i64 d)],.rows 0 (.e80 l0),.rows 0 (.e84 l1),.rows 0 (.e106 l2),.rows 0 (.e110 l3),.rows 0 (.e60 l4),.rows 0 (.e93 l5)]⟩))
def Q72:Mean Rw:=fun k a h Z K=>match a,h with
 | [.pt 0 0,.w (.c (.rw 6))],[.box 36 [.rw 1,.rw 2,.rw 3,.rw 4,.rw 5,.sc (.i .i64 d)],.rows 0 (.e80 l0),.rows 0 (.e84 l1),.rows 0 (.e106 l2),.rows 0 (.e110 l3),.rows 0 (.e60 l4),.rows 0 (.e93 l5)]=>W72 k d l0 l1 l2 l3 l4 l5 Z K
 | _,_=>none
def q72:Cal Rw:=⟨72,false,Q72⟩
def O72:List (Cal Rw):=[q117,q118]
def C2b:Nat→St Rw→Option (Out Rw):=fun k st=>match st with
 | ⟨47,7,8,[(0,.pt 0 0),(1,.w (.c (.rw 6))),(5,.w (.c (.rw 7))),(14,.w (.c (.rw 1))),(15,.w (.c (.sc (.i .i64 x15)))),(16,.w (.c (.sc (.i .i64 x16))))],[(0,.box 36 [.rw 1,.rw 2,.rw 3,.rw 4,.rw 5,.sc (.i .i64 d)]),(1,.rows 0 (.e80 l0)),(2,.rows 0 (.e84 l1)),(3,.rows 0 (.e106 l2)),(4,.rows 0 (.e110 l3)),(5,.rows 0 (.e60 l4)),(6,.rows 0 (.e93 l5)),(7,.rows 2 (.eI y7))]⟩=>(R3.l0 k d l0 l1 l2 l3 l4 l5 x15 x16 y7).bind fun r=>(if r.1=true then some ⟨[.c (.sc (.i .i64 r.2.2))],[.box 36 [.rw 1,.rw 2,.rw 7,.rw 4,.rw 5,.sc (.i .i64 d)],.rows 0 (.e80 l0),.rows 0 (.e84 l1),.rows 0 (.e106 l2),.rows 0 (.e110 l3),.rows 0 (.e60 l4),.rows 0 (.e93 l5),.rows 2 (.e106 r.2.1)]⟩ else some ⟨[.c (.sc (.i .i64 r.2.2))],[.box 36 [.rw 1,.rw 2,.rw 3,.rw 4,.rw 5,.sc (.i .i64 d)],.rows 0 (.e80 l0),.rows 0 (.e84 l1),.rows 0 (.e106 l2),.rows 0 (.e110 l3),.rows 0 (.e60 l4),.rows 0 (.e93 l5)]⟩)
 | _=>none
def K72:List (Cut Rw):=[⟨[false,true,false,true,true],[0,1,5,14,15,16],C2b⟩]
theorem D3y (k:Nat) (st:St Rw) (out:Out Rw) (h:C2b (k+1) st=some out):sg Tryz.prog O72 K72 Tryz.f72 k [false,true,false,true,true] st=some out:=by
 unfold C2b at h;split at h
 · rename_i x15 x16 d l0 l1 l2 l3 l4 l5 y7
   exact Lo.of (b:=(if x16<x15 then (if 0≤x16 then (if x16<(l0.length:Int) then (if (M2 l0 x16).f1=1 then ((R3.l0 k d l0 l1 l2 l3 l4 l5 x15 (RowKit.wrap64 (x16+1)) y7).bind fun r=>(if r.1=true then some ⟨[.c (.sc (.i .i64 r.2.2))],[.box 36 [.rw 1,.rw 2,.rw 7,.rw 4,.rw 5,.sc (.i .i64 d)],.rows 0 (.e80 l0),.rows 0 (.e84 l1),.rows 0 (.e106 l2),.rows 0 (.e110 l3),.rows 0 (.e60 l4),.rows 0 (.e93 l5),.rows 2 (.e106 r.2.1)]⟩ else some ⟨[.c (.sc (.i .i64 r.2.2))],[.box 36 [.rw 1,.rw 2,.rw 3,.rw 4,.rw 5,.sc (.i .i64 d)],.rows 0 (.e80 l0),.rows 0 (.e84 l1),.rows 0 (.e106 l2),.rows 0 (.e110 l3),.rows 0 (.e60 l4),.rows 0 (.e93 l5)]⟩)) else (if y7.length+1<17592186044417 then ((R3.l0 k d l0 l1 l2 l3 l4 l5 x15 (RowKit.wrap64 (x16+1)) (y7++([(M2 l0 x16).f0]))).bind fun r=>(if r.1=true then some ⟨[.c (.sc (.i .i64 r.2.2))],[.box 36 [.rw 1,.rw 2,.rw 7,.rw 4,.rw 5,.sc (.i .i64 d)],.rows 0 (.e80 l0),.rows 0 (.e84 l1),.rows 0 (.e106 l2),.rows 0 (.e110 l3),.rows 0 (.e60 l4),.rows 0 (.e93 l5),.rows 2 (.e106 r.2.1)]⟩ else some ⟨[.c (.sc (.i .i64 r.2.2))],[.box 36 [.rw 1,.rw 2,.rw 3,.rw 4,.rw 5,.sc (.i .i64 d)],.rows 0 (.e80 l0),.rows 0 (.e84 l1),.rows 0 (.e106 l2),.rows 0 (.e110 l3),.rows 0 (.e60 l4),.rows 0 (.e93 l5)]⟩)) else none)) else none) else none) else ((D9.f k l2 l5 y7).bind fun r11=>(if r11.2=0 then ((R8.f r11.2).bind fun r12=>(some ⟨[.c (.sc (.i .i64 r12))],[.box 36 [.rw 1,.rw 2,.rw 7,.rw 4,.rw 5,.sc (.i .i64 d)],.rows 0 (.e80 l0),.rows 0 (.e84 l1),.rows 0 (.e106 l2),.rows 0 (.e110 l3),.rows 0 (.e60 l4),.rows 0 (.e93 l5),.rows 2 (.e106 r11.1)]⟩)) else ((R8.f r11.2).bind fun r12=>(some ⟨[.c (.sc (.i .i64 r12))],[.box 36 [.rw 1,.rw 2,.rw 3,.rw 4,.rw 5,.sc (.i .i64 d)],.rows 0 (.e80 l0),.rows 0 (.e84 l1),.rows 0 (.e106 l2),.rows 0 (.e110 l3),.rows 0 (.e60 l4),.rows 0 (.e93 l5)]⟩)))))) (by kernel_rfl) (by rw [R3.l0];exact lo_) _ h
 · cases h
theorem d72:G8 Tryz.prog q72:=fn_d (O:=O72) (cs:=K72) (C0 d117 (C0 d118 nil_)) mixed Tryz.func72 (C0 (fun st=>by show C2b 0 st=none;unfold C2b;split<;>rfl) nil_) (C0 D3y nil_) fun k a h Z K z e=>by
 unfold Q72 at e;split at e
 · rename_i d l0 l1 l2 l3 l4 l5
   exact tk_ (x:=W72 k d l0 l1 l2 l3 l4 l5 _ some) e (by kernel_rfl) (by unfold W72;exact tkw_)
 · cases e
def W71 (k:Nat) (d:Int) (l0:List S80) (l1:List S84) (l2:List S106) (l3:List S110) (l4:List S60) (a1:Int) (Z:Type) (K:Out Rw→Option Z):Option Z:=((E8.f k l1 a1).bind fun r8=>(K ⟨[.c (.sc (.i .i64 r8))],[.box 36 [.rw 1,.rw 2,.rw 3,.rw 4,.rw 5,.sc (.i .i64 d)],.rows 0 (.e80 l0),.rows 0 (.e84 l1),.rows 0 (.e106 l2),.rows 0 (.e110 l3),.rows 0 (.e60 l4)]⟩))
def Q71:Mean Rw:=fun k a h Z K=>match a,h with
 | [.pt 0 0,.w (.c (.sc (.i .i64 a1)))],[.box 36 [.rw 1,.rw 2,.rw 3,.rw 4,.rw 5,.sc (.i .i64 d)],.rows 0 (.e80 l0),.rows 0 (.e84 l1),.rows 0 (.e106 l2),.rows 0 (.e110 l3),.rows 0 (.e60 l4)]=>W71 k d l0 l1 l2 l3 l4 a1 Z K
 | _,_=>none
def q71:Cal Rw:=⟨71,false,Q71⟩
def O71:List (Cal Rw):=[q110]
theorem d71:G8 Tryz.prog q71:=fn_d (O:=O71) (cs:=[]) (C0 d110 nil_) mixed Tryz.func71 nil_ nil_ fun k a h Z K z e=>by
 unfold Q71 at e;split at e
 · rename_i a1 d l0 l1 l2 l3 l4
   exact tk_ (x:=W71 k d l0 l1 l2 l3 l4 a1 _ some) e (by kernel_rfl) (by unfold W71;exact tkw_)
 · cases e
def o192 (r:Int×Int):Out Rw:=⟨[.c (.sc (.i .u64 r.1)),.c (.sc (.i .u64 r.2))],[]⟩
def Q192:Mean Rw:=fun k a h Z K=>match a,h with
 | [.w (.c (.sc (.i .u64 a0))),.w (.c (.sc (.i .u64 a1)))],[]=>(A0s.f a0 a1).bind fun r=>K (o192 r)
 | _,_=>none
def q192:Cal Rw:=⟨192,false,Q192⟩
def O192:List (Cal Rw):=[]
def K192:List (Cut Rw):=[]
theorem d192:G8 Tryz.prog q192:=fn_d (O:=O192) (cs:=K192) nil_ mixed Tryz.func192 nil_ nil_ fun k a h Z K z e=>by
 unfold Q192 at e;split at e
 · rename_i a0 a1
   exact ent e (Lo.of (b:=(if 0≤32 then (if 0≤32 then (if 0≤32 then (if 0≤32 then (if 0≤32 then (some (o192 (IntKind.u64.wrap (IntKind.u64.wrap (IntKind.u64.wrap (a0/2 ^ min (Int.toNat 32) IntKind.u64.bits*(a1/2 ^ min (Int.toNat 32) IntKind.u64.bits))+IntKind.u64.wrap (IntKind.u64.wrap (a0/2 ^ min (Int.toNat 32) IntKind.u64.bits*bits BinOp.and IntKind.u64 a1 4294967295)+IntKind.u64.wrap (bits BinOp.and IntKind.u64 a0 4294967295*bits BinOp.and IntKind.u64 a1 4294967295)/2 ^ min (Int.toNat 32) IntKind.u64.bits)/2 ^ min (Int.toNat 32) IntKind.u64.bits)+IntKind.u64.wrap (bits BinOp.and IntKind.u64 (IntKind.u64.wrap (IntKind.u64.wrap (a0/2 ^ min (Int.toNat 32) IntKind.u64.bits*bits BinOp.and IntKind.u64 a1 4294967295)+IntKind.u64.wrap (bits BinOp.and IntKind.u64 a0 4294967295*bits BinOp.and IntKind.u64 a1 4294967295)/2 ^ min (Int.toNat 32) IntKind.u64.bits)) 4294967295+IntKind.u64.wrap (bits BinOp.and IntKind.u64 a0 4294967295*(a1/2 ^ min (Int.toNat 32) IntKind.u64.bits)))/2 ^ min (Int.toNat 32) IntKind.u64.bits),IntKind.u64.wrap (a0*a1)))) else none) else none) else none) else none) else none)) (by kernel_rfl) (by unfold A0s.f;exact lo_))
 · cases e
def o197 (r:Int):Out Rw:=⟨[.c (.sc (.i .i64 r))],[]⟩
def Q197:Mean Rw:=fun k a h Z K=>match a,h with
 | [.w (.c (.sc (.i .u64 a0)))],[]=>(Q4.f k a0).bind fun r=>K (o197 r)
 | _,_=>none
def q197:Cal Rw:=⟨197,false,Q197⟩
def O197:List (Cal Rw):=[q207]
def K197:List (Cut Rw):=[]
theorem d197:G8 Tryz.prog q197:=fn_d (O:=O197) (cs:=K197) (C0 d207 nil_) mixed Tryz.func197 nil_ nil_ fun k a h Z K z e=>by
 unfold Q197 at e;split at e
 · rename_i a0
   exact ent e (Lo.of (b:=((P9.f k a0).bind fun r2=>(some (o197 (RowKit.wrap64 (64-r2)))))) (by kernel_rfl) (by unfold Q4.f;exact lo_))
 · cases e
def o193 (r:Int×Int):Out Rw:=⟨[.c (.sc (.i .u64 r.1)),.c (.sc (.i .u64 r.2))],[]⟩
def Q193:Mean Rw:=fun k a h Z K=>match a,h with
 | [.w (.c (.sc (.i .u64 a0))),.w (.c (.sc (.i .u64 a1))),.w (.c (.sc (.i .u64 a2)))],[]=>(F0.f k a0 a1 a2).bind fun r=>K (o193 r)
 | _,_=>none
def q193:Cal Rw:=⟨193,false,Q193⟩
def O193:List (Cal Rw):=[q197]
def B1u:Nat→St Rw→Option (Out Rw):=fun k st=>match st with
 | ⟨135,0,0,[(2,.w (.c (.sc (.i .u64 x2)))),(8,.w (.c (.sc (.i .u64 x8)))),(9,.w (.c (.sc (.i .u64 x9)))),(10,.w (.c (.sc (.i .u64 x10)))),(11,.w (.c (.sc (.i .u64 x11)))),(13,.w (.c (.sc (.i .u64 x13)))),(14,.w (.c (.sc (.i .u64 x14)))),(15,.w (.c (.sc (.i .u64 x15))))],[]⟩=>(F0.j2 k x2 x8 x9 x10 x11 x13 x14 x15).bind fun r=>some (o193 r)
 | _=>none
def B1t:Nat→St Rw→Option (Out Rw):=fun k st=>match st with
 | ⟨135,0,0,[(2,.w (.c (.sc (.i .u64 x2)))),(8,.w (.c (.sc (.i .u64 x8)))),(9,.w (.c (.sc (.i .u64 x9)))),(10,.w (.c (.sc (.i .u64 x10)))),(14,.w (.c (.sc (.i .u64 x14)))),(15,.w (.c (.sc (.i .u64 x15)))),(16,.w (.c (.sc (.i .u64 x16)))),(17,.w (.c (.sc (.i .u64 x17)))),(18,.w (.c (.sc (.i .u64 x18))))],[]⟩=>(F0.l1 k x2 x8 x9 x10 x14 x15 x16 x17 x18).bind fun r=>some (o193 r)
 | _=>none
def B1s:Nat→St Rw→Option (Out Rw):=fun k st=>match st with
 | ⟨135,0,0,[(2,.w (.c (.sc (.i .u64 x2)))),(8,.w (.c (.sc (.i .u64 x8)))),(9,.w (.c (.sc (.i .u64 x9)))),(10,.w (.c (.sc (.i .u64 x10)))),(14,.w (.c (.sc (.i .u64 x14)))),(15,.w (.c (.sc (.i .u64 x15)))),(16,.w (.c (.sc (.i .u64 x16)))),(17,.w (.c (.sc (.i .u64 x17)))),(18,.w (.c (.sc (.i .u64 x18)))),(113,.w (.c (.sc (.b x113))))],[]⟩=>(F0.j4 k x2 x8 x9 x10 x14 x15 x16 x17 x18 x113).bind fun r=>some (o193 r)
 | _=>none
def B1r:Nat→St Rw→Option (Out Rw):=fun k st=>match st with
 | ⟨135,0,0,[(2,.w (.c (.sc (.i .u64 x2)))),(8,.w (.c (.sc (.i .u64 x8)))),(9,.w (.c (.sc (.i .u64 x9)))),(10,.w (.c (.sc (.i .u64 x10)))),(11,.w (.c (.sc (.i .u64 x11)))),(13,.w (.c (.sc (.i .u64 x13)))),(14,.w (.c (.sc (.i .u64 x14)))),(15,.w (.c (.sc (.i .u64 x15)))),(16,.w (.c (.sc (.i .u64 x16))))],[]⟩=>(F0.l0 k x2 x8 x9 x10 x11 x13 x14 x15 x16).bind fun r=>some (o193 r)
 | _=>none
def B1q:Nat→St Rw→Option (Out Rw):=fun k st=>match st with
 | ⟨135,0,0,[(2,.w (.c (.sc (.i .u64 x2)))),(8,.w (.c (.sc (.i .u64 x8)))),(9,.w (.c (.sc (.i .u64 x9)))),(10,.w (.c (.sc (.i .u64 x10)))),(11,.w (.c (.sc (.i .u64 x11)))),(13,.w (.c (.sc (.i .u64 x13)))),(14,.w (.c (.sc (.i .u64 x14)))),(15,.w (.c (.sc (.i .u64 x15)))),(16,.w (.c (.sc (.i .u64 x16)))),(78,.w (.c (.sc (.b x78))))],[]⟩=>(F0.j1 k x2 x8 x9 x10 x11 x13 x14 x15 x16 x78).bind fun r=>some (o193 r)
 | _=>none
def K193:List (Cut Rw):=[⟨[true,true,true,true,true,true,true,true,true,true,true,true,true,true,true],[2,8,9,10,11,13,14,15],B1u⟩,⟨[false,false,true,true,true,true,true,true,true,true,true,true,true,true,true,true,true,true,true,true],[2,8,9,10,14,15,16,17,18],B1t⟩,⟨[true,false,false,false,false,true,true,true,true,true,true,true,true,true,true,true,true,true,true,true,true,true,true],[2,8,9,10,14,15,16,17,18,113],B1s⟩,⟨[false,false,true,true,true,true,true,true,true,true,true,true,true,true,true,true],[2,8,9,10,11,13,14,15,16],B1r⟩,⟨[true,false,false,false,false,true,true,true,true,true,true,true,true,true,true,true,true,true,true],[2,8,9,10,11,13,14,15,16,78],B1q⟩]
theorem D0b:HH Tryz.prog O193 K193 Tryz.f193 [true,true,true,true,true,true,true,true,true,true,true,true,true,true,true] B1u:=fun k st out h=>by
 unfold B1u at h;split at h
 · rename_i x2 x8 x9 x10 x11 x13 x14 x15
   exact Lo.of (b:=(if x9≠0 then ((F0.l1 k x2 x8 x9 x10 x14 x15 (IntKind.u64.wrap (IntKind.u64.wrap (IntKind.u64.wrap (IntKind.u64.wrap (x11*4294967296)+x13)-IntKind.u64.wrap (x15*x2))-IntKind.u64.wrap (IntKind.u64.wrap ((IntKind.u64.wrap (IntKind.u64.wrap (IntKind.u64.wrap (x11*4294967296)+x13)-IntKind.u64.wrap (x15*x2))).tdiv x9)*x9))) (IntKind.u64.wrap (IntKind.u64.wrap (IntKind.u64.wrap (x11*4294967296)+x13)-IntKind.u64.wrap (x15*x2))) (IntKind.u64.wrap ((IntKind.u64.wrap (IntKind.u64.wrap (IntKind.u64.wrap (x11*4294967296)+x13)-IntKind.u64.wrap (x15*x2))).tdiv x9))).bind fun r=>some (o193 r)) else none)) (by kernel_rfl) (by rw [F0.j2];exact lov_) _ h
 · cases h
theorem D0a:HH Tryz.prog O193 K193 Tryz.f193 [false,false,true,true,true,true,true,true,true,true,true,true,true,true,true,true,true,true,true,true] B1t:=fun k st out h=>by
 unfold B1t at h;split at h
 · rename_i x2 x8 x9 x10 x14 x15 x16 x17 x18
   exact Lo.of (b:=(if x18≥4294967296 then ((F0.j4 k x2 x8 x9 x10 x14 x15 x16 x17 x18 true).bind fun r=>some (o193 r)) else ((F0.j4 k x2 x8 x9 x10 x14 x15 x16 x17 x18 (decide (IntKind.u64.wrap (x18*x10)>IntKind.u64.wrap (IntKind.u64.wrap (4294967296*x16)+x14)))).bind fun r=>some (o193 r)))) (by kernel_rfl) (by rw [F0.l1];exact lov_) _ h
 · cases h
theorem C9z:HH Tryz.prog O193 K193 Tryz.f193 [true,false,false,false,false,true,true,true,true,true,true,true,true,true,true,true,true,true,true,true,true,true,true] B1s:=fun k st out h=>by
 unfold B1s at h;split at h
 · rename_i x2 x8 x9 x10 x14 x15 x16 x17 x18 x113
   exact Lo.of (b:=(if x113=true then (if IntKind.u64.wrap (x16+x9)≥4294967296 then (if 0≤x8 then (some (o193 (IntKind.u64.wrap (IntKind.u64.wrap (x15*4294967296)+IntKind.u64.wrap (x18-1)),IntKind.u64.wrap (IntKind.u64.wrap (IntKind.u64.wrap (x17*4294967296)+x14)-IntKind.u64.wrap (IntKind.u64.wrap (x18-1)*x2))/2 ^ min x8.toNat IntKind.u64.bits))) else none) else ((F0.l1 k x2 x8 x9 x10 x14 x15 (IntKind.u64.wrap (x16+x9)) x17 (IntKind.u64.wrap (x18-1))).bind fun r=>some (o193 r))) else (if 0≤x8 then (some (o193 (IntKind.u64.wrap (IntKind.u64.wrap (x15*4294967296)+x18),IntKind.u64.wrap (IntKind.u64.wrap (IntKind.u64.wrap (x17*4294967296)+x14)-IntKind.u64.wrap (x18*x2))/2 ^ min x8.toNat IntKind.u64.bits))) else none))) (by kernel_rfl) (by rw [F0.j4];exact lov_) _ h
 · cases h
theorem C9y:HH Tryz.prog O193 K193 Tryz.f193 [false,false,true,true,true,true,true,true,true,true,true,true,true,true,true,true] B1r:=fun k st out h=>by
 unfold B1r at h;split at h
 · rename_i x2 x8 x9 x10 x11 x13 x14 x15 x16
   exact Lo.of (b:=(if x15≥4294967296 then ((F0.j1 k x2 x8 x9 x10 x11 x13 x14 x15 x16 true).bind fun r=>some (o193 r)) else ((F0.j1 k x2 x8 x9 x10 x11 x13 x14 x15 x16 (decide (IntKind.u64.wrap (x15*x10)>IntKind.u64.wrap (IntKind.u64.wrap (4294967296*x16)+x13)))).bind fun r=>some (o193 r)))) (by kernel_rfl) (by rw [F0.l0];exact lov_) _ h
 · cases h
theorem C9x:HH Tryz.prog O193 K193 Tryz.f193 [true,false,false,false,false,true,true,true,true,true,true,true,true,true,true,true,true,true,true] B1q:=fun k st out h=>by
 unfold B1q at h;split at h
 · rename_i x2 x8 x9 x10 x11 x13 x14 x15 x16 x78
   exact Lo.of (b:=(if x78=true then (if IntKind.u64.wrap (x16+x9)≥4294967296 then ((F0.j2 k x2 x8 x9 x10 x11 x13 x14 (IntKind.u64.wrap (x15-1))).bind fun r=>some (o193 r)) else ((F0.l0 k x2 x8 x9 x10 x11 x13 x14 (IntKind.u64.wrap (x15-1)) (IntKind.u64.wrap (x16+x9))).bind fun r=>some (o193 r))) else ((F0.j2 k x2 x8 x9 x10 x11 x13 x14 x15).bind fun r=>some (o193 r)))) (by kernel_rfl) (by rw [F0.j1];exact lov_) _ h
 · cases h
theorem d193:G8 Tryz.prog q193:=fn_d (O:=O193) (cs:=K193) (C0 d197 nil_) mixed Tryz.func193 (C0 (fun st=>by show B1u 0 st=none;unfold B1u;split<;>rfl) (C0 (fun st=>by show B1t 0 st=none;unfold B1t;split<;>rfl) (C0 (fun st=>by show B1s 0 st=none;unfold B1s;split<;>rfl) (C0 (fun st=>by show B1r 0 st=none;unfold B1r;split<;>rfl) (C0 (fun st=>by show B1q 0 st=none;unfold B1q;split<;>rfl) nil_))))) (C0 D0b (C0 D0a (C0 C9z (C0 C9y (C0 C9x nil_))))) fun k a h Z K z e=>by
 unfold Q193 at e;split at e
 · rename_i a0 a1 a2
   exact ent e (Lo.of (b:=(if a2=0 then none else (if a2≤a0 then none else (if a0=0 then (if a2≠0 then (if a2≠0 then (some (o193 (IntKind.u64.wrap (a1.tdiv a2),a1.tmod a2))) else none) else none) else ((Q4.f k a2).bind fun r4=>(if 0≤IntKind.u64.wrap r4 then (if 0≤32 then (if 0≤IntKind.u64.wrap r4 then (if 0≤IntKind.u64.wrap (64-IntKind.u64.wrap r4) then (if 0≤IntKind.u64.wrap r4 then (if 0≤32 then (if IntKind.u64.wrap (a2*2 ^ min (IntKind.u64.wrap r4).toNat IntKind.u64.bits)/2 ^ min (Int.toNat 32) IntKind.u64.bits≠0 then ((F0.l0 k (IntKind.u64.wrap (a2*2 ^ min (IntKind.u64.wrap r4).toNat IntKind.u64.bits)) (IntKind.u64.wrap r4) (IntKind.u64.wrap (a2*2 ^ min (IntKind.u64.wrap r4).toNat IntKind.u64.bits)/2 ^ min (Int.toNat 32) IntKind.u64.bits) (bits BinOp.and IntKind.u64 (IntKind.u64.wrap (a2*2 ^ min (IntKind.u64.wrap r4).toNat IntKind.u64.bits)) 4294967295) (bits BinOp.or IntKind.u64 (IntKind.u64.wrap (a0*2 ^ min (IntKind.u64.wrap r4).toNat IntKind.u64.bits)) (a1/2 ^ min (IntKind.u64.wrap (64-IntKind.u64.wrap r4)).toNat IntKind.u64.bits)) (IntKind.u64.wrap (a1*2 ^ min (IntKind.u64.wrap r4).toNat IntKind.u64.bits)/2 ^ min (Int.toNat 32) IntKind.u64.bits) (bits BinOp.and IntKind.u64 (IntKind.u64.wrap (a1*2 ^ min (IntKind.u64.wrap r4).toNat IntKind.u64.bits)) 4294967295) (IntKind.u64.wrap ((bits BinOp.or IntKind.u64 (IntKind.u64.wrap (a0*2 ^ min (IntKind.u64.wrap r4).toNat IntKind.u64.bits)) (a1/2 ^ min (IntKind.u64.wrap (64-IntKind.u64.wrap r4)).toNat IntKind.u64.bits)).tdiv (IntKind.u64.wrap (a2*2 ^ min (IntKind.u64.wrap r4).toNat IntKind.u64.bits)/2 ^ min (Int.toNat 32) IntKind.u64.bits))) (IntKind.u64.wrap (bits BinOp.or IntKind.u64 (IntKind.u64.wrap (a0*2 ^ min (IntKind.u64.wrap r4).toNat IntKind.u64.bits)) (a1/2 ^ min (IntKind.u64.wrap (64-IntKind.u64.wrap r4)).toNat IntKind.u64.bits)-IntKind.u64.wrap (IntKind.u64.wrap ((bits BinOp.or IntKind.u64 (IntKind.u64.wrap (a0*2 ^ min (IntKind.u64.wrap r4).toNat IntKind.u64.bits)) (a1/2 ^ min (IntKind.u64.wrap (64-IntKind.u64.wrap r4)).toNat IntKind.u64.bits)).tdiv (IntKind.u64.wrap (a2*2 ^ min (IntKind.u64.wrap r4).toNat IntKind.u64.bits)/2 ^ min (Int.toNat 32) IntKind.u64.bits))*(IntKind.u64.wrap (a2*2 ^ min (IntKind.u64.wrap r4).toNat IntKind.u64.bits)/2 ^ min (Int.toNat 32) IntKind.u64.bits))))).bind fun r=>some (o193 r)) else none) else none) else none) else none) else none) else none) else none)))))) (by kernel_rfl) (by unfold F0.f;exact (by simp only [shl,shr,D2k];exact low_)))
 · cases e
def o183 (r:Int×Int×Bool):Out Rw:=⟨[.c (.sc (.i .i64 r.1)),.c (.sc (.i .i64 r.2.1)),.c (.sc (.b r.2.2))],[]⟩
def Q183:Mean Rw:=fun k a h Z K=>match a,h with
 | [.w (.c (.sc (.i .i64 a0))),.w (.c (.sc (.i .i64 a1))),.w (.c (.sc (.i .i64 a2)))],[]=>(L6.f k a0 a1 a2).bind fun r=>K (o183 r)
 | _,_=>none
def q183:Cal Rw:=⟨183,false,Q183⟩
def O183:List (Cal Rw):=[q59,q192,q193]
def B1v:Nat→St Rw→Option (Out Rw):=fun k st=>match st with
 | ⟨52,0,0,[(0,.w (.c (.sc (.i .i64 x0)))),(1,.w (.c (.sc (.i .i64 x1)))),(2,.w (.c (.sc (.i .i64 x2)))),(25,.w (.c (.sc (.b x25))))],[]⟩=>(L6.j0 k x0 x1 x2 x25).bind fun r=>some (o183 r)
 | _=>none
def K183:List (Cut Rw):=[⟨[true,false,true],[0,1,2,25],B1v⟩]
theorem D0c:HH Tryz.prog O183 K183 Tryz.f183 [true,false,true] B1v:=fun k st out h=>by
 unfold B1v at h;split at h
 · rename_i x0 x1 x2 x25
   exact Lo.of (b:=(if x25=true then (some (o183 (0,0,false))) else ((A0s.f (IntKind.u64.wrap x0) (IntKind.u64.wrap x1)).bind fun r5=>(if r5.1≥IntKind.u64.wrap x2 then (some (o183 (0,0,false))) else ((F0.f k r5.1 r5.2 (IntKind.u64.wrap x2)).bind fun r6=>(if r6.1>1000000000000000 then (some (o183 (0,0,false))) else (some (o183 (RowKit.wrap64 r6.1,RowKit.wrap64 r6.2,true))))))))) (by kernel_rfl) (by rw [L6.j0];exact lo_) _ h
 · cases h
theorem d183:G8 Tryz.prog q183:=fn_d (O:=O183) (cs:=K183) (C0 d59 (C0 d192 (C0 d193 nil_))) mixed Tryz.func183 (C0 (fun st=>by show B1v 0 st=none;unfold B1v;split<;>rfl) nil_) (C0 D0c nil_) fun k a h Z K z e=>by
 unfold Q183 at e;split at e
 · rename_i a0 a1 a2
   exact ent e (Lo.of (b:=((J7.f a0 0 1000000000000000).bind fun r4=>(if r4=true then ((J7.f a1 0 1000000000000000).bind fun r5=>(if r5=true then ((J7.f a2 1 1000000000000000).bind fun r6=>((L6.j0 k a0 a1 a2 (!decide (r6=true))).bind fun r=>some (o183 r))) else ((L6.j0 k a0 a1 a2 true).bind fun r=>some (o183 r)))) else ((L6.j0 k a0 a1 a2 true).bind fun r=>some (o183 r))))) (by kernel_rfl) (by unfold L6.f;exact lo_))
 · cases e
def o163 (l0:List S110) (r:(List (S110))×Int):Out Rw:=⟨[.c (.rw 1),.c (.sc (.i .i64 r.2))],[.rows 0 (.e110 l0),.rows 2 (.e110 r.1)]⟩
def Q163:Mean Rw:=fun k a h Z K=>match a,h with
 | [.w (.c (.rw 0)),.w (.c (.sc (.i .i64 a1)))],[.rows 0 (.e110 l0)]=>(H1.f k l0 a1).bind fun r=>K (o163 l0 r)
 | _,_=>none
def q163:Cal Rw:=⟨163,false,Q163⟩
def O163:List (Cal Rw):=[q183]
def B1z:Nat→St Rw→Option (Out Rw):=fun k st=>match st with
 | ⟨62,1,2,[(1,.w (.c (.sc (.i .i64 x1)))),(6,.w (.c (.sc (.i .i64 x6)))),(7,.w (.c (.rw 1))),(15,.w (.c (.rw 0))),(16,.w (.c (.sc (.i .i64 x16)))),(17,.w (.c (.sc (.i .i64 x17))))],[(0,.rows 0 (.e110 l0)),(1,.rows 2 (.e110 y1))]⟩=>(H1.l0 k x1 x6 y1 l0 x16 x17).bind fun r=>some (o163 l0 r)
 | _=>none
def K163:List (Cut Rw):=[⟨[false,true,false,true,true,true],[1,6,7,15,16,17],B1z⟩]
theorem D0g:HH Tryz.prog O163 K163 Tryz.f163 [false,true,false,true,true,true] B1z:=fun k st out h=>by
 unfold B1z at h;split at h
 · rename_i x1 x6 x16 x17 l0 y1
   exact Lo.of (b:=(if x17<x16 then (if 0≤x17 then (if x17<(l0.length:Int) then ((L6.f k (A4 l0 x17).f4 (if (A4 l0 x17).f3<x1 then (A4 l0 x17).f3 else x1) (A4 l0 x17).f3).bind fun r7=>(if (if (A4 l0 x17).f3<x1 then (A4 l0 x17).f3 else x1)<(A4 l0 x17).f3 then (if y1.length+1<3518437208884 then ((H1.l0 k (RowKit.wrap64 (x1-if (A4 l0 x17).f3<x1 then (A4 l0 x17).f3 else x1)) (RowKit.wrap64 (x6+r7.1)) (y1++([(⟨(A4 l0 x17).f0,(A4 l0 x17).f1,(A4 l0 x17).f2,RowKit.wrap64 ((A4 l0 x17).f3-if (A4 l0 x17).f3<x1 then (A4 l0 x17).f3 else x1),RowKit.wrap64 ((A4 l0 x17).f4-r7.1)⟩:S110)])) l0 x16 (RowKit.wrap64 (x17+1))).bind fun r=>some (o163 l0 r)) else none) else ((H1.l0 k (RowKit.wrap64 (x1-if (A4 l0 x17).f3<x1 then (A4 l0 x17).f3 else x1)) (RowKit.wrap64 (x6+r7.1)) y1 l0 x16 (RowKit.wrap64 (x17+1))).bind fun r=>some (o163 l0 r)))) else none) else none) else (some (o163 l0 (y1,x6))))) (by kernel_rfl) (by rw [H1.l0];exact (by simp only [mn];exact lo_)) _ h
 · cases h
theorem d163:G8 Tryz.prog q163:=fn_d (O:=O163) (cs:=K163) (C0 d183 nil_) mixed Tryz.func163 (C0 (fun st=>by show B1z 0 st=none;unfold B1z;split<;>rfl) nil_) (C0 D0g nil_) fun k a h Z K z e=>by
 unfold Q163 at e;split at e
 · rename_i a1 l0
   exact ent e (Lo.of (b:=((H1.l0 k a1 0 ([]) l0 ((l0.length:Int)) 0).bind fun r=>some (o163 l0 r))) (by kernel_rfl) (by unfold H1.f;exact lo_))
 · cases e
def o165 (l0:List S110) (r:(List (S110))×Int):Out Rw:=⟨[.c (.rw 1),.c (.sc (.i .i64 r.2))],[.rows 0 (.e110 l0),.rows 2 (.e110 r.1)]⟩
def Q165:Mean Rw:=fun k a h Z K=>match a,h with
 | [.w (.c (.rw 0)),.w (.c (.sc (.i .i64 a1)))],[.rows 0 (.e110 l0)]=>(U6.f k l0 a1).bind fun r=>K (o165 l0 r)
 | _,_=>none
def q165:Cal Rw:=⟨165,false,Q165⟩
def O165:List (Cal Rw):=[q136,q183]
def K165:List (Cut Rw):=[]
theorem d165:G8 Tryz.prog q165:=fn_d (O:=O165) (cs:=K165) (C0 d136 (C0 d183 nil_)) mixed Tryz.func165 nil_ nil_ fun k a h Z K z e=>by
 unfold Q165 at e;split at e
 · rename_i a1 l0
   exact ent e (Lo.of (b:=((H3.f k l0).bind fun r3=>((L6.f k r3.2 a1 r3.1).bind fun r4=>(if r3.1=a1 then (some (o165 l0 ([],r4.1))) else (if 0≤0 then (if 0<(l0.length:Int) then (some (o165 l0 ([(⟨(l0.getD (Int.toNat 0) z110).f0,(l0.getD (Int.toNat 0) z110).f1,(l0.getD (Int.toNat 0) z110).f2,RowKit.wrap64 (r3.1-a1),RowKit.wrap64 (r3.2-r4.1)⟩:S110)],r4.1))) else none) else none))))) (by kernel_rfl) (by unfold U6.f;exact lo_))
 · cases e
def o121 (l0:List S110) (r:(List (S110))×Int×Int):Out Rw:=⟨[.c (.rw 1),.c (.sc (.i .i64 r.2.1)),.c (.sc (.i .i64 r.2.2))],[.rows 0 (.e110 l0),.rows 2 (.e110 r.1)]⟩
def Q121:Mean Rw:=fun k a h Z K=>match a,h with
 | [.w (.c (.rw 0)),.w (.c (.sc (.i .i64 a1))),.w (.c (.sc (.i .i64 a2))),.w (.c (.sc (.i .i64 a3))),.w (.c (.sc (.i .i64 a4)))],[.rows 0 (.e110 l0)]=>(L8.f k l0 a1 a2 a3 a4).bind fun r=>K (o121 l0 r)
 | _,_=>none
def q121:Cal Rw:=⟨121,false,Q121⟩
def O121:List (Cal Rw):=[q92,q59,q137,q136,q100,q163,q164,q165,q166]
def B2v:Nat→St Rw→Option (Out Rw):=fun k st=>match st with
 | ⟨78,1,1,[(0,.w (.c (.rw 0))),(1,.w (.c (.sc (.i .i64 x1)))),(2,.w (.c (.sc (.i .i64 x2)))),(3,.w (.c (.sc (.i .i64 x3)))),(4,.w (.c (.sc (.i .i64 x4)))),(30,.w (.c (.sc (.b x30))))],[(0,.rows 0 (.e110 l0))]⟩=>(L8.j0 k l0 x1 x2 x3 x4 x30).bind fun r=>some (o121 l0 r)
 | _=>none
def K121:List (Cut Rw):=[⟨[true,false,true],[0,1,2,3,4,30],B2v⟩]
theorem D1c:HH Tryz.prog O121 K121 Tryz.f121 [true,false,true] B2v:=fun k st out h=>by
 unfold B2v at h;split at h
 · rename_i x1 x2 x3 x4 x30 l0
   exact Lo.of (b:=(if x30=true then (some (o121 l0 ([],0,1))) else ((F4.f l0 x1 x2).bind fun r7=>((H3.f k r7).bind fun r8=>(if r8.1<x3 then ((J1.f l0).bind fun r9=>(some (o121 l0 (r9,0,2)))) else (if x4=1 then ((H1.f k r7 x3).bind fun r9=>((C5.f l0 x1 x2 r9.1).bind fun r10=>(some (o121 l0 (r10,r9.2,0))))) else (if x4=2 then ((L5.f r7).bind fun r9=>((H1.f k r9 x3).bind fun r10=>((C5.f l0 x1 x2 r10.1).bind fun r11=>(some (o121 l0 (r11,r10.2,0)))))) else (if x4=3 then ((U6.f k r7 x3).bind fun r9=>((C5.f l0 x1 x2 r9.1).bind fun r10=>(some (o121 l0 (r10,r9.2,0))))) else ((C5.f l0 x1 x2 []).bind fun r9=>(some (o121 l0 (r9,0,0)))))))))))) (by kernel_rfl) (by rw [L8.j0];exact lo_) _ h
 · cases h
theorem d121:G8 Tryz.prog q121:=fn_d (O:=O121) (cs:=K121) (C0 d92 (C0 d59 (C0 d137 (C0 d136 (C0 d100 (C0 d163 (C0 d164 (C0 d165 (C0 d166 nil_))))))))) mixed Tryz.func121 (C0 (fun st=>by show B2v 0 st=none;unfold B2v;split<;>rfl) nil_) (C0 D1c nil_) fun k a h Z K z e=>by
 unfold Q121 at e;split at e
 · rename_i a1 a2 a3 a4 l0
   exact ent e (Lo.of (b:=((A9.f l0).bind fun r6=>(if r6=true then ((J7.f a3 1 1000000000000000).bind fun r7=>(if r7=true then ((J7.f a4 1 3).bind fun r8=>((L8.j0 k l0 a1 a2 a3 a4 (!decide (r8=true))).bind fun r=>some (o121 l0 r))) else ((L8.j0 k l0 a1 a2 a3 a4 true).bind fun r=>some (o121 l0 r)))) else ((L8.j0 k l0 a1 a2 a3 a4 true).bind fun r=>some (o121 l0 r))))) (by kernel_rfl) (by unfold L8.f;exact lo_))
 · cases e
def W75 (k:Nat) (d:Int) (l0:List S80) (l1:List S84) (l2:List S106) (l3:List S110) (l4:List S60) (a1:Int) (a2:Int) (a3:Int) (a4:Int) (Z:Type) (K:Out Rw→Option Z):Option Z:=((L8.f k l3 a1 a2 a3 a4).bind fun r11=>(if r11.2.2=0 then (K ⟨[.c (.sc (.i .i64 r11.2.1)),.c (.sc (.i .i64 0))],[.box 36 [.rw 1,.rw 2,.rw 3,.rw 6,.rw 5,.sc (.i .i64 d)],.rows 0 (.e80 l0),.rows 0 (.e84 l1),.rows 0 (.e106 l2),.rows 0 (.e110 l3),.rows 0 (.e60 l4),.rows 2 (.e110 r11.1)]⟩) else (K ⟨[.c (.sc (.i .i64 0)),.c (.sc (.i .i64 5))],[.box 36 [.rw 1,.rw 2,.rw 3,.rw 4,.rw 5,.sc (.i .i64 d)],.rows 0 (.e80 l0),.rows 0 (.e84 l1),.rows 0 (.e106 l2),.rows 0 (.e110 l3),.rows 0 (.e60 l4)]⟩)))
def Q75:Mean Rw:=fun k a h Z K=>match a,h with
 | [.pt 0 0,.w (.c (.sc (.i .i64 a1))),.w (.c (.sc (.i .i64 a2))),.w (.c (.sc (.i .i64 a3))),.w (.c (.sc (.i .i64 a4)))],[.box 36 [.rw 1,.rw 2,.rw 3,.rw 4,.rw 5,.sc (.i .i64 d)],.rows 0 (.e80 l0),.rows 0 (.e84 l1),.rows 0 (.e106 l2),.rows 0 (.e110 l3),.rows 0 (.e60 l4)]=>W75 k d l0 l1 l2 l3 l4 a1 a2 a3 a4 Z K
 | _,_=>none
def q75:Cal Rw:=⟨75,false,Q75⟩
def O75:List (Cal Rw):=[q121]
theorem d75:G8 Tryz.prog q75:=fn_d (O:=O75) (cs:=[]) (C0 d121 nil_) mixed Tryz.func75 nil_ nil_ fun k a h Z K z e=>by
 unfold Q75 at e;split at e
 · rename_i a1 a2 a3 a4 d l0 l1 l2 l3 l4
   exact tk_ (x:=W75 k d l0 l1 l2 l3 l4 a1 a2 a3 a4 _ some) e (by kernel_rfl) (by unfold W75;exact tkw_)
 · cases e
def W73 (k:Nat) (d:Int) (l0:List S80) (l1:List S84) (l2:List S106) (l3:List S110) (l4:List S60) (a1:Int) (a2:Int) (a3:Int) (a4:Int) (Z:Type) (K:Out Rw→Option Z):Option Z:=(if d≥1000000000 then (K ⟨[.c (.sc (.i .i64 7))],[.box 36 [.rw 1,.rw 2,.rw 3,.rw 4,.rw 5,.sc (.i .i64 d)],.rows 0 (.e80 l0),.rows 0 (.e84 l1),.rows 0 (.e106 l2),.rows 0 (.e110 l3),.rows 0 (.e60 l4)]⟩) else ((D1.f k l3 a1 a2 (RowKit.wrap64 (d+1)) a3 a4).bind fun r11=>(if r11.2=0 then (K ⟨[.c (.sc (.i .i64 0))],[.box 36 [.rw 1,.rw 2,.rw 3,.rw 6,.rw 5,.sc (.i .i64 (RowKit.wrap64 (d+1)))],.rows 0 (.e80 l0),.rows 0 (.e84 l1),.rows 0 (.e106 l2),.rows 0 (.e110 l3),.rows 0 (.e60 l4),.rows 2 (.e110 r11.1)]⟩) else (K ⟨[.c (.sc (.i .i64 7))],[.box 36 [.rw 1,.rw 2,.rw 3,.rw 4,.rw 5,.sc (.i .i64 d)],.rows 0 (.e80 l0),.rows 0 (.e84 l1),.rows 0 (.e106 l2),.rows 0 (.e110 l3),.rows 0 (.e60 l4)]⟩))))
def Q73:Mean Rw:=fun k a h Z K=>match a,h with
 | [.pt 0 0,.w (.c (.sc (.i .i64 a1))),.w (.c (.sc (.i .i64 a2))),.w (.c (.sc (.i .i64 a3))),.w (.c (.sc (.i .i64 a4)))],[.box 36 [.rw 1,.rw 2,.rw 3,.rw 4,.rw 5,.sc (.i .i64 d)],.rows 0 (.e80 l0),.rows 0 (.e84 l1),.rows 0 (.e106 l2),.rows 0 (.e110 l3),.rows 0 (.e60 l4)]=>W73 k d l0 l1 l2 l3 l4 a1 a2 a3 a4 Z K
 | _,_=>none
def q73:Cal Rw:=⟨73,false,Q73⟩
def O73:List (Cal Rw):=[q119]
theorem d73:G8 Tryz.prog q73:=fn_d (O:=O73) (cs:=[]) (C0 d119 nil_) mixed Tryz.func73 nil_ nil_ fun k a h Z K z e=>by
 unfold Q73 at e;split at e
 · rename_i a1 a2 a3 a4 d l0 l1 l2 l3 l4
   exact tk_ (x:=W73 k d l0 l1 l2 l3 l4 a1 a2 a3 a4 _ some) e (by kernel_rfl) (by unfold W73;exact tkw_)
 · cases e
end
end Go.Proofs.YtmfgajbkcnlkcaaGreat.AI
namespace Go.Proofs.YtmfgajbkcnlkcaaGreat.AI
open Go Go.RowKit Go.Proofs.YtmfgajbkcnlkcaaGreatW.PrintWords Go.Proofs.YtmfgajbkcnlkcaaGreat.P
set_option linter.unusedVariables false
set_option linter.all false
set_option maxRecDepth 100000
set_option maxHeartbeats 4000000
noncomputable section
def o22 (l0_0:List S80) (l0_1:List S84) (l0_2:List S106) (l0_3:List S110) (l0_4:List S60) (r:(List (S80))×(List (S84))×(List (S106))×(List (S110))×(List (S60))×Int×Int×Int):Out Rw:=⟨[.ag [.rw 5,.rw 6,.rw 7,.rw 8,.rw 9,.sc (.i .i64 r.2.2.2.2.2.1)],.c (.sc (.i .i64 r.2.2.2.2.2.2.1)),.c (.sc (.i .i64 r.2.2.2.2.2.2.2))],[.rows 0 (.e80 l0_0),.rows 0 (.e84 l0_1),.rows 0 (.e106 l0_2),.rows 0 (.e110 l0_3),.rows 0 (.e60 l0_4),.rows 2 (.e80 r.1),.rows 2 (.e84 r.2.1),.rows 2 (.e106 r.2.2.1),.rows 2 (.e110 r.2.2.2.1),.rows 2 (.e60 r.2.2.2.2.1)]⟩
def Q22:Mean Rw:=fun k a h Z K=>match a,h with
 | [.w (.ag [.rw 0,.rw 1,.rw 2,.rw 3,.rw 4,.sc (.i .i64 a0_5)]),.w (.c (.sc (.i .i64 a1))),.w (.c (.sc (.i .i64 a2))),.w (.c (.sc (.i .i64 a3))),.w (.c (.sc (.i .i64 a4))),.w (.c (.sc (.i .i64 a5)))],[.rows 0 (.e80 l0_0),.rows 0 (.e84 l0_1),.rows 0 (.e106 l0_2),.rows 0 (.e110 l0_3),.rows 0 (.e60 l0_4)]=>(T8.f k l0_0 l0_1 l0_2 l0_3 l0_4 a0_5 a1 a2 a3 a4 a5).bind fun r=>K (o22 l0_0 l0_1 l0_2 l0_3 l0_4 r)
 | _,_=>none
def q22:Cal Rw:=⟨22,false,Q22⟩
def O22:List (Cal Rw):=[q37,q70,q59,q39,q60,q64,q72,q71,q75,q73]
def K22:List (Cut Rw):=[]
theorem d22:G8 Tryz.prog q22:=fn_d (O:=O22) (cs:=K22) (C0 d37 (C0 d70 (C0 d59 (C0 d39 (C0 d60 (C0 d64 (C0 d72 (C0 d71 (C0 d75 (C0 d73 nil_)))))))))) mixed Tryz.func22 nil_ nil_ fun k a h Z K z e=>by
 unfold Q22 at e;split at e
 · rename_i a0_5 a1 a2 a3 a4 a5 l0_0 l0_1 l0_2 l0_3 l0_4
   exact ent e (Lo.of (b:=((J6.f k l0_0 l0_1 l0_2 l0_3 l0_4 a0_5).bind fun r12=>(if r12=true then ((N6.f ([a1]++[a2]++[a3])).bind fun r13=>(if r13=true then ((J7.f a4 1 1000000000000000).bind fun r14=>(if r14=true then ((J7.f a5 1 3).bind fun r15=>(if r15=true then ((E9.f l0_0 l0_1 l0_2 l0_3 l0_4 a0_5).bind fun r16=>((D3.f k r16.1 a1).bind fun r817=>(if r817=0 then (some (o22 l0_0 l0_1 l0_2 l0_3 l0_4 (r16.1,r16.2.1,r16.2.2.1,r16.2.2.2.1,r16.2.2.2.2.1,r16.2.2.2.2.2,0,3))) else ((D3.f k r16.1 a2).bind fun r818=>(if r818=0 then (some (o22 l0_0 l0_1 l0_2 l0_3 l0_4 (r16.1,r16.2.1,r16.2.2.1,r16.2.2.2.1,r16.2.2.2.2.1,r16.2.2.2.2.2,0,3))) else ((E8.f k r16.2.1 a3).bind fun r819=>(if (!decide (r819=0))=true then ((D3.f k r16.1 a1).bind fun r820=>(if r820=1 then ((D3.f k r16.1 a2).bind fun r821=>(if r821=1 then (if a1=a2 then (some (o22 l0_0 l0_1 l0_2 l0_3 l0_4 (r16.1,r16.2.1,r16.2.2.1,r16.2.2.2.1,r16.2.2.2.2.1,r16.2.2.2.2.2,0,4))) else ((R3.l0 k r16.2.2.2.2.2 r16.1 r16.2.1 r16.2.2.1 r16.2.2.2.1 r16.2.2.2.2.1 ([(⟨a1,a3,RowKit.wrap64 (0-a4)⟩:S93)]++[(⟨a2,a3,a4⟩:S93)]) ((r16.1.length:Int)) 0 []).bind fun r22=>(if r22.1=true then (if r22.2.2=0 then ((E8.f k r16.2.1 a3).bind fun r823=>(if r823=2 then ((L8.f k r16.2.2.2.1 a1 a3 a4 a5).bind fun r1124=>(if r1124.2.2=0 then (if 0=0 then (if r16.2.2.2.2.2≥1000000000 then (if 7=0 then (some (o22 l0_0 l0_1 l0_2 l0_3 l0_4 (r16.1,r16.2.1,r22.2.1,r1124.1,r16.2.2.2.2.1,r16.2.2.2.2.2,r1124.2.1,0))) else ((E9.f l0_0 l0_1 l0_2 l0_3 l0_4 a0_5).bind fun r25=>(some (o22 l0_0 l0_1 l0_2 l0_3 l0_4 (r25.1,r25.2.1,r25.2.2.1,r25.2.2.2.1,r25.2.2.2.2.1,r25.2.2.2.2.2,0,7))))) else ((D1.f k r1124.1 a2 a3 (RowKit.wrap64 (r16.2.2.2.2.2+1)) a4 r1124.2.1).bind fun r1125=>(if r1125.2=0 then (if 0=0 then (some (o22 l0_0 l0_1 l0_2 l0_3 l0_4 (r16.1,r16.2.1,r22.2.1,r1125.1,r16.2.2.2.2.1,RowKit.wrap64 (r16.2.2.2.2.2+1),r1124.2.1,0))) else ((E9.f l0_0 l0_1 l0_2 l0_3 l0_4 a0_5).bind fun r26=>(some (o22 l0_0 l0_1 l0_2 l0_3 l0_4 (r26.1,r26.2.1,r26.2.2.1,r26.2.2.2.1,r26.2.2.2.2.1,r26.2.2.2.2.2,0,0))))) else (if 7=0 then (some (o22 l0_0 l0_1 l0_2 l0_3 l0_4 (r16.1,r16.2.1,r22.2.1,r1124.1,r16.2.2.2.2.1,r16.2.2.2.2.2,r1124.2.1,0))) else ((E9.f l0_0 l0_1 l0_2 l0_3 l0_4 a0_5).bind fun r26=>(some (o22 l0_0 l0_1 l0_2 l0_3 l0_4 (r26.1,r26.2.1,r26.2.2.1,r26.2.2.2.1,r26.2.2.2.2.1,r26.2.2.2.2.2,0,7)))))))) else (if 0=0 then (some (o22 l0_0 l0_1 l0_2 l0_3 l0_4 (r16.1,r16.2.1,r22.2.1,r1124.1,r16.2.2.2.2.1,r16.2.2.2.2.2,r1124.2.1,0))) else ((E9.f l0_0 l0_1 l0_2 l0_3 l0_4 a0_5).bind fun r25=>(some (o22 l0_0 l0_1 l0_2 l0_3 l0_4 (r25.1,r25.2.1,r25.2.2.1,r25.2.2.2.1,r25.2.2.2.2.1,r25.2.2.2.2.2,0,0)))))) else (if 5=0 then (if r16.2.2.2.2.2≥1000000000 then (if 7=0 then (some (o22 l0_0 l0_1 l0_2 l0_3 l0_4 (r16.1,r16.2.1,r22.2.1,r16.2.2.2.1,r16.2.2.2.2.1,r16.2.2.2.2.2,0,0))) else ((E9.f l0_0 l0_1 l0_2 l0_3 l0_4 a0_5).bind fun r25=>(some (o22 l0_0 l0_1 l0_2 l0_3 l0_4 (r25.1,r25.2.1,r25.2.2.1,r25.2.2.2.1,r25.2.2.2.2.1,r25.2.2.2.2.2,0,7))))) else ((D1.f k r16.2.2.2.1 a2 a3 (RowKit.wrap64 (r16.2.2.2.2.2+1)) a4 0).bind fun r1125=>(if r1125.2=0 then (if 0=0 then (some (o22 l0_0 l0_1 l0_2 l0_3 l0_4 (r16.1,r16.2.1,r22.2.1,r1125.1,r16.2.2.2.2.1,RowKit.wrap64 (r16.2.2.2.2.2+1),0,0))) else ((E9.f l0_0 l0_1 l0_2 l0_3 l0_4 a0_5).bind fun r26=>(some (o22 l0_0 l0_1 l0_2 l0_3 l0_4 (r26.1,r26.2.1,r26.2.2.1,r26.2.2.2.1,r26.2.2.2.2.1,r26.2.2.2.2.2,0,0))))) else (if 7=0 then (some (o22 l0_0 l0_1 l0_2 l0_3 l0_4 (r16.1,r16.2.1,r22.2.1,r16.2.2.2.1,r16.2.2.2.2.1,r16.2.2.2.2.2,0,0))) else ((E9.f l0_0 l0_1 l0_2 l0_3 l0_4 a0_5).bind fun r26=>(some (o22 l0_0 l0_1 l0_2 l0_3 l0_4 (r26.1,r26.2.1,r26.2.2.1,r26.2.2.2.1,r26.2.2.2.2.1,r26.2.2.2.2.2,0,7)))))))) else (if 5=0 then (some (o22 l0_0 l0_1 l0_2 l0_3 l0_4 (r16.1,r16.2.1,r22.2.1,r16.2.2.2.1,r16.2.2.2.2.1,r16.2.2.2.2.2,0,0))) else ((E9.f l0_0 l0_1 l0_2 l0_3 l0_4 a0_5).bind fun r25=>(some (o22 l0_0 l0_1 l0_2 l0_3 l0_4 (r25.1,r25.2.1,r25.2.2.1,r25.2.2.2.1,r25.2.2.2.2.1,r25.2.2.2.2.2,0,5)))))))) else (if r22.2.2=0 then (some (o22 l0_0 l0_1 l0_2 l0_3 l0_4 (r16.1,r16.2.1,r22.2.1,r16.2.2.2.1,r16.2.2.2.2.1,r16.2.2.2.2.2,0,0))) else ((E9.f l0_0 l0_1 l0_2 l0_3 l0_4 a0_5).bind fun r24=>(some (o22 l0_0 l0_1 l0_2 l0_3 l0_4 (r24.1,r24.2.1,r24.2.2.1,r24.2.2.2.1,r24.2.2.2.2.1,r24.2.2.2.2.2,0,r22.2.2))))))) else (if r22.2.2=0 then (some (o22 l0_0 l0_1 l0_2 l0_3 l0_4 (r16.1,r16.2.1,r22.2.1,r16.2.2.2.1,r16.2.2.2.2.1,r16.2.2.2.2.2,0,0))) else ((E9.f l0_0 l0_1 l0_2 l0_3 l0_4 a0_5).bind fun r23=>(some (o22 l0_0 l0_1 l0_2 l0_3 l0_4 (r23.1,r23.2.1,r23.2.2.1,r23.2.2.2.1,r23.2.2.2.2.1,r23.2.2.2.2.2,0,r22.2.2)))))) else (if r22.2.2=0 then ((E8.f k r16.2.1 a3).bind fun r823=>(if r823=2 then ((L8.f k r16.2.2.2.1 a1 a3 a4 a5).bind fun r1124=>(if r1124.2.2=0 then (if 0=0 then (if r16.2.2.2.2.2≥1000000000 then (if 7=0 then (some (o22 l0_0 l0_1 l0_2 l0_3 l0_4 (r16.1,r16.2.1,r16.2.2.1,r1124.1,r16.2.2.2.2.1,r16.2.2.2.2.2,r1124.2.1,0))) else ((E9.f l0_0 l0_1 l0_2 l0_3 l0_4 a0_5).bind fun r25=>(some (o22 l0_0 l0_1 l0_2 l0_3 l0_4 (r25.1,r25.2.1,r25.2.2.1,r25.2.2.2.1,r25.2.2.2.2.1,r25.2.2.2.2.2,0,7))))) else ((D1.f k r1124.1 a2 a3 (RowKit.wrap64 (r16.2.2.2.2.2+1)) a4 r1124.2.1).bind fun r1125=>(if r1125.2=0 then (if 0=0 then (some (o22 l0_0 l0_1 l0_2 l0_3 l0_4 (r16.1,r16.2.1,r16.2.2.1,r1125.1,r16.2.2.2.2.1,RowKit.wrap64 (r16.2.2.2.2.2+1),r1124.2.1,0))) else ((E9.f l0_0 l0_1 l0_2 l0_3 l0_4 a0_5).bind fun r26=>(some (o22 l0_0 l0_1 l0_2 l0_3 l0_4 (r26.1,r26.2.1,r26.2.2.1,r26.2.2.2.1,r26.2.2.2.2.1,r26.2.2.2.2.2,0,0))))) else (if 7=0 then (some (o22 l0_0 l0_1 l0_2 l0_3 l0_4 (r16.1,r16.2.1,r16.2.2.1,r1124.1,r16.2.2.2.2.1,r16.2.2.2.2.2,r1124.2.1,0))) else ((E9.f l0_0 l0_1 l0_2 l0_3 l0_4 a0_5).bind fun r26=>(some (o22 l0_0 l0_1 l0_2 l0_3 l0_4 (r26.1,r26.2.1,r26.2.2.1,r26.2.2.2.1,r26.2.2.2.2.1,r26.2.2.2.2.2,0,7)))))))) else (if 0=0 then (some (o22 l0_0 l0_1 l0_2 l0_3 l0_4 (r16.1,r16.2.1,r16.2.2.1,r1124.1,r16.2.2.2.2.1,r16.2.2.2.2.2,r1124.2.1,0))) else ((E9.f l0_0 l0_1 l0_2 l0_3 l0_4 a0_5).bind fun r25=>(some (o22 l0_0 l0_1 l0_2 l0_3 l0_4 (r25.1,r25.2.1,r25.2.2.1,r25.2.2.2.1,r25.2.2.2.2.1,r25.2.2.2.2.2,0,0)))))) else (if 5=0 then (if r16.2.2.2.2.2≥1000000000 then (if 7=0 then (some (o22 l0_0 l0_1 l0_2 l0_3 l0_4 (r16.1,r16.2.1,r16.2.2.1,r16.2.2.2.1,r16.2.2.2.2.1,r16.2.2.2.2.2,0,0))) else ((E9.f l0_0 l0_1 l0_2 l0_3 l0_4 a0_5).bind fun r25=>(some (o22 l0_0 l0_1 l0_2 l0_3 l0_4 (r25.1,r25.2.1,r25.2.2.1,r25.2.2.2.1,r25.2.2.2.2.1,r25.2.2.2.2.2,0,7))))) else ((D1.f k r16.2.2.2.1 a2 a3 (RowKit.wrap64 (r16.2.2.2.2.2+1)) a4 0).bind fun r1125=>(if r1125.2=0 then (if 0=0 then (some (o22 l0_0 l0_1 l0_2 l0_3 l0_4 (r16.1,r16.2.1,r16.2.2.1,r1125.1,r16.2.2.2.2.1,RowKit.wrap64 (r16.2.2.2.2.2+1),0,0))) else ((E9.f l0_0 l0_1 l0_2 l0_3 l0_4 a0_5).bind fun r26=>(some (o22 l0_0 l0_1 l0_2 l0_3 l0_4 (r26.1,r26.2.1,r26.2.2.1,r26.2.2.2.1,r26.2.2.2.2.1,r26.2.2.2.2.2,0,0))))) else (if 7=0 then (some (o22 l0_0 l0_1 l0_2 l0_3 l0_4 (r16.1,r16.2.1,r16.2.2.1,r16.2.2.2.1,r16.2.2.2.2.1,r16.2.2.2.2.2,0,0))) else ((E9.f l0_0 l0_1 l0_2 l0_3 l0_4 a0_5).bind fun r26=>(some (o22 l0_0 l0_1 l0_2 l0_3 l0_4 (r26.1,r26.2.1,r26.2.2.1,r26.2.2.2.1,r26.2.2.2.2.1,r26.2.2.2.2.2,0,7)))))))) else (if 5=0 then (some (o22 l0_0 l0_1 l0_2 l0_3 l0_4 (r16.1,r16.2.1,r16.2.2.1,r16.2.2.2.1,r16.2.2.2.2.1,r16.2.2.2.2.2,0,0))) else ((E9.f l0_0 l0_1 l0_2 l0_3 l0_4 a0_5).bind fun r25=>(some (o22 l0_0 l0_1 l0_2 l0_3 l0_4 (r25.1,r25.2.1,r25.2.2.1,r25.2.2.2.1,r25.2.2.2.2.1,r25.2.2.2.2.2,0,5)))))))) else (if r22.2.2=0 then (some (o22 l0_0 l0_1 l0_2 l0_3 l0_4 (r16.1,r16.2.1,r16.2.2.1,r16.2.2.2.1,r16.2.2.2.2.1,r16.2.2.2.2.2,0,0))) else ((E9.f l0_0 l0_1 l0_2 l0_3 l0_4 a0_5).bind fun r24=>(some (o22 l0_0 l0_1 l0_2 l0_3 l0_4 (r24.1,r24.2.1,r24.2.2.1,r24.2.2.2.1,r24.2.2.2.2.1,r24.2.2.2.2.2,0,r22.2.2))))))) else (if r22.2.2=0 then (some (o22 l0_0 l0_1 l0_2 l0_3 l0_4 (r16.1,r16.2.1,r16.2.2.1,r16.2.2.2.1,r16.2.2.2.2.1,r16.2.2.2.2.2,0,0))) else ((E9.f l0_0 l0_1 l0_2 l0_3 l0_4 a0_5).bind fun r23=>(some (o22 l0_0 l0_1 l0_2 l0_3 l0_4 (r23.1,r23.2.1,r23.2.2.1,r23.2.2.2.1,r23.2.2.2.2.1,r23.2.2.2.2.2,0,r22.2.2))))))))) else (some (o22 l0_0 l0_1 l0_2 l0_3 l0_4 (r16.1,r16.2.1,r16.2.2.1,r16.2.2.2.1,r16.2.2.2.2.1,r16.2.2.2.2.2,0,4))))) else (some (o22 l0_0 l0_1 l0_2 l0_3 l0_4 (r16.1,r16.2.1,r16.2.2.1,r16.2.2.2.1,r16.2.2.2.2.1,r16.2.2.2.2.2,0,4))))) else (some (o22 l0_0 l0_1 l0_2 l0_3 l0_4 (r16.1,r16.2.1,r16.2.2.1,r16.2.2.2.1,r16.2.2.2.2.1,r16.2.2.2.2.2,0,3)))))))))) else (some (o22 l0_0 l0_1 l0_2 l0_3 l0_4 ([],[],[],[],[],0,0,1))))) else (some (o22 l0_0 l0_1 l0_2 l0_3 l0_4 ([],[],[],[],[],0,0,1))))) else (some (o22 l0_0 l0_1 l0_2 l0_3 l0_4 ([],[],[],[],[],0,0,1))))) else (some (o22 l0_0 l0_1 l0_2 l0_3 l0_4 ([],[],[],[],[],0,0,1)))))) (by kernel_rfl) (by unfold T8.f;exact lon_))
 · cases e
def o103 (r:Bool):Out Rw:=⟨[.c (.sc (.b r))],[]⟩
def Q103:Mean Rw:=fun k a h Z K=>match a,h with
 | [.w (.ag [.sc (.i .i64 a0_0),.sc (.i .i64 a0_1)]),.w (.ag [.sc (.i .i64 a1_0),.sc (.i .i64 a1_1)])],[]=>(U9.f a0_0 a0_1 a1_0 a1_1).bind fun r=>K (o103 r)
 | _,_=>none
def q103:Cal Rw:=⟨103,false,Q103⟩
def O103:List (Cal Rw):=[]
def K103:List (Cut Rw):=[]
theorem d103:G8 Tryz.prog q103:=fn_d (O:=O103) (cs:=K103) nil_ mixed Tryz.func103 nil_ nil_ fun k a h Z K z e=>by
 unfold Q103 at e;split at e
 · rename_i a0_0 a0_1 a1_0 a1_1
   exact ent e (Lo.of (b:=(if a0_0=a1_0 then (if a0_1=a1_1 then (some (o103 true)) else (some (o103 false))) else (some (o103 false)))) (by kernel_rfl) (by unfold U9.f;exact lo_))
 · cases e
def o41 (l0:List S80) (l1:List S80) (r:Bool):Out Rw:=⟨[.c (.sc (.b r))],[.rows 0 (.e80 l0),.rows 0 (.e80 l1)]⟩
def Q41:Mean Rw:=fun k a h Z K=>match a,h with
 | [.w (.c (.rw 0)),.w (.c (.rw 1))],[.rows 0 (.e80 l0),.rows 0 (.e80 l1)]=>(L0.f k l0 l1).bind fun r=>K (o41 l0 l1 r)
 | _,_=>none
def q41:Cal Rw:=⟨41,false,Q41⟩
def O41:List (Cal Rw):=[q103]
def C2u:Nat→St Rw→Option (Out Rw):=fun k st=>match st with
 | ⟨27,2,2,[(0,.w (.c (.rw 0))),(1,.w (.c (.rw 1))),(5,.w (.c (.sc (.i .i64 x5))))],[(0,.rows 0 (.e80 l0)),(1,.rows 0 (.e80 l1))]⟩=>(L0.l0 k l0 l1 x5).bind fun r=>some (o41 l0 l1 r)
 | _=>none
def K41:List (Cut Rw):=[⟨[false,true,false,true,true],[0,1,5],C2u⟩]
theorem D4r:HH Tryz.prog O41 K41 Tryz.f41 [false,true,false,true,true] C2u:=fun k st out h=>by
 unfold C2u at h;split at h
 · rename_i x5 l0 l1
   exact Lo.of (b:=(if x5<(l0.length:Int) then (if 0≤x5 then (if x5<(l0.length:Int) then (if 0≤x5 then (if x5<(l1.length:Int) then ((U9.f (M2 l0 x5).f0 (M2 l0 x5).f1 (M2 l1 x5).f0 (M2 l1 x5).f1).bind fun r4=>(if r4=true then ((L0.l0 k l0 l1 (RowKit.wrap64 (x5+1))).bind fun r=>some (o41 l0 l1 r)) else (some (o41 l0 l1 false)))) else none) else none) else none) else none) else (some (o41 l0 l1 true)))) (by kernel_rfl) (by rw [L0.l0];exact lo_) _ h
 · cases h
theorem d41:G8 Tryz.prog q41:=fn_d (O:=O41) (cs:=K41) (C0 d103 nil_) mixed Tryz.func41 (C0 (fun st=>by show C2u 0 st=none;unfold C2u;split<;>rfl) nil_) (C0 D4r nil_) fun k a h Z K z e=>by
 unfold Q41 at e;split at e
 · rename_i l0 l1
   exact ent e (Lo.of (b:=(if (l0.length:Int)=(l1.length:Int) then ((L0.l0 k l0 l1 0).bind fun r=>some (o41 l0 l1 r)) else (some (o41 l0 l1 false)))) (by kernel_rfl) (by unfold L0.f;exact lo_))
 · cases e
def o104 (r:Bool):Out Rw:=⟨[.c (.sc (.b r))],[]⟩
def Q104:Mean Rw:=fun k a h Z K=>match a,h with
 | [.w (.ag [.sc (.i .i64 a0_0),.sc (.i .i64 a0_1)]),.w (.ag [.sc (.i .i64 a1_0),.sc (.i .i64 a1_1)])],[]=>(Y2.f a0_0 a0_1 a1_0 a1_1).bind fun r=>K (o104 r)
 | _,_=>none
def q104:Cal Rw:=⟨104,false,Q104⟩
def O104:List (Cal Rw):=[]
def K104:List (Cut Rw):=[]
theorem d104:G8 Tryz.prog q104:=fn_d (O:=O104) (cs:=K104) nil_ mixed Tryz.func104 nil_ nil_ fun k a h Z K z e=>by
 unfold Q104 at e;split at e
 · rename_i a0_0 a0_1 a1_0 a1_1
   exact ent e (Lo.of (b:=(if a0_0=a1_0 then (if a0_1=a1_1 then (some (o104 true)) else (some (o104 false))) else (some (o104 false)))) (by kernel_rfl) (by unfold Y2.f;exact lo_))
 · cases e
def o42 (l0:List S84) (l1:List S84) (r:Bool):Out Rw:=⟨[.c (.sc (.b r))],[.rows 0 (.e84 l0),.rows 0 (.e84 l1)]⟩
def Q42:Mean Rw:=fun k a h Z K=>match a,h with
 | [.w (.c (.rw 0)),.w (.c (.rw 1))],[.rows 0 (.e84 l0),.rows 0 (.e84 l1)]=>(N5.f k l0 l1).bind fun r=>K (o42 l0 l1 r)
 | _,_=>none
def q42:Cal Rw:=⟨42,false,Q42⟩
def O42:List (Cal Rw):=[q104]
def C2t:Nat→St Rw→Option (Out Rw):=fun k st=>match st with
 | ⟨27,2,2,[(0,.w (.c (.rw 0))),(1,.w (.c (.rw 1))),(5,.w (.c (.sc (.i .i64 x5))))],[(0,.rows 0 (.e84 l0)),(1,.rows 0 (.e84 l1))]⟩=>(N5.l0 k l0 l1 x5).bind fun r=>some (o42 l0 l1 r)
 | _=>none
def K42:List (Cut Rw):=[⟨[false,true,false,true,true],[0,1,5],C2t⟩]
theorem D4q:HH Tryz.prog O42 K42 Tryz.f42 [false,true,false,true,true] C2t:=fun k st out h=>by
 unfold C2t at h;split at h
 · rename_i x5 l0 l1
   exact Lo.of (b:=(if x5<(l0.length:Int) then (if 0≤x5 then (if x5<(l0.length:Int) then (if 0≤x5 then (if x5<(l1.length:Int) then ((Y2.f (M5 l0 x5).f0 (M5 l0 x5).f1 (M5 l1 x5).f0 (M5 l1 x5).f1).bind fun r4=>(if r4=true then ((N5.l0 k l0 l1 (RowKit.wrap64 (x5+1))).bind fun r=>some (o42 l0 l1 r)) else (some (o42 l0 l1 false)))) else none) else none) else none) else none) else (some (o42 l0 l1 true)))) (by kernel_rfl) (by rw [N5.l0];exact lo_) _ h
 · cases h
theorem d42:G8 Tryz.prog q42:=fn_d (O:=O42) (cs:=K42) (C0 d104 nil_) mixed Tryz.func42 (C0 (fun st=>by show C2t 0 st=none;unfold C2t;split<;>rfl) nil_) (C0 D4q nil_) fun k a h Z K z e=>by
 unfold Q42 at e;split at e
 · rename_i l0 l1
   exact ent e (Lo.of (b:=(if (l0.length:Int)=(l1.length:Int) then ((N5.l0 k l0 l1 0).bind fun r=>some (o42 l0 l1 r)) else (some (o42 l0 l1 false)))) (by kernel_rfl) (by unfold N5.f;exact lo_))
 · cases e
def o105 (r:Bool):Out Rw:=⟨[.c (.sc (.b r))],[]⟩
def Q105:Mean Rw:=fun k a h Z K=>match a,h with
 | [.w (.ag [.sc (.i .i64 a0_0),.sc (.i .i64 a0_1),.sc (.i .i64 a0_2)]),.w (.ag [.sc (.i .i64 a1_0),.sc (.i .i64 a1_1),.sc (.i .i64 a1_2)])],[]=>(A0r.f a0_0 a0_1 a0_2 a1_0 a1_1 a1_2).bind fun r=>K (o105 r)
 | _,_=>none
def q105:Cal Rw:=⟨105,false,Q105⟩
def O105:List (Cal Rw):=[]
def K105:List (Cut Rw):=[]
theorem d105:G8 Tryz.prog q105:=fn_d (O:=O105) (cs:=K105) nil_ mixed Tryz.func105 nil_ nil_ fun k a h Z K z e=>by
 unfold Q105 at e;split at e
 · rename_i a0_0 a0_1 a0_2 a1_0 a1_1 a1_2
   exact ent e (Lo.of (b:=(if a0_0=a1_0 then (if a0_1=a1_1 then (if a0_2=a1_2 then (some (o105 true)) else (some (o105 false))) else (some (o105 false))) else (some (o105 false)))) (by kernel_rfl) (by unfold A0r.f;exact lo_))
 · cases e
def o43 (l0:List S106) (l1:List S106) (r:Bool):Out Rw:=⟨[.c (.sc (.b r))],[.rows 0 (.e106 l0),.rows 0 (.e106 l1)]⟩
def Q43:Mean Rw:=fun k a h Z K=>match a,h with
 | [.w (.c (.rw 0)),.w (.c (.rw 1))],[.rows 0 (.e106 l0),.rows 0 (.e106 l1)]=>(P4.f k l0 l1).bind fun r=>K (o43 l0 l1 r)
 | _,_=>none
def q43:Cal Rw:=⟨43,false,Q43⟩
def O43:List (Cal Rw):=[q105]
def C2s:Nat→St Rw→Option (Out Rw):=fun k st=>match st with
 | ⟨27,2,2,[(0,.w (.c (.rw 0))),(1,.w (.c (.rw 1))),(5,.w (.c (.sc (.i .i64 x5))))],[(0,.rows 0 (.e106 l0)),(1,.rows 0 (.e106 l1))]⟩=>(P4.l0 k l0 l1 x5).bind fun r=>some (o43 l0 l1 r)
 | _=>none
def K43:List (Cut Rw):=[⟨[false,true,false,true,true],[0,1,5],C2s⟩]
theorem D4p:HH Tryz.prog O43 K43 Tryz.f43 [false,true,false,true,true] C2s:=fun k st out h=>by
 unfold C2s at h;split at h
 · rename_i x5 l0 l1
   exact Lo.of (b:=(if x5<(l0.length:Int) then (if 0≤x5 then (if x5<(l0.length:Int) then (if 0≤x5 then (if x5<(l1.length:Int) then ((A0r.f (C8 l0 x5).f0 (C8 l0 x5).f1 (C8 l0 x5).f2 (C8 l1 x5).f0 (C8 l1 x5).f1 (C8 l1 x5).f2).bind fun r4=>(if r4=true then ((P4.l0 k l0 l1 (RowKit.wrap64 (x5+1))).bind fun r=>some (o43 l0 l1 r)) else (some (o43 l0 l1 false)))) else none) else none) else none) else none) else (some (o43 l0 l1 true)))) (by kernel_rfl) (by rw [P4.l0];exact lo_) _ h
 · cases h
theorem d43:G8 Tryz.prog q43:=fn_d (O:=O43) (cs:=K43) (C0 d105 nil_) mixed Tryz.func43 (C0 (fun st=>by show C2s 0 st=none;unfold C2s;split<;>rfl) nil_) (C0 D4p nil_) fun k a h Z K z e=>by
 unfold Q43 at e;split at e
 · rename_i l0 l1
   exact ent e (Lo.of (b:=(if (l0.length:Int)=(l1.length:Int) then ((P4.l0 k l0 l1 0).bind fun r=>some (o43 l0 l1 r)) else (some (o43 l0 l1 false)))) (by kernel_rfl) (by unfold P4.f;exact lo_))
 · cases e
def o106 (r:Bool):Out Rw:=⟨[.c (.sc (.b r))],[]⟩
def Q106:Mean Rw:=fun k a h Z K=>match a,h with
 | [.w (.ag [.sc (.i .i64 a0_0),.sc (.i .i64 a0_1),.sc (.i .i64 a0_2),.sc (.i .i64 a0_3),.sc (.i .i64 a0_4)]),.w (.ag [.sc (.i .i64 a1_0),.sc (.i .i64 a1_1),.sc (.i .i64 a1_2),.sc (.i .i64 a1_3),.sc (.i .i64 a1_4)])],[]=>(A0q.f a0_0 a0_1 a0_2 a0_3 a0_4 a1_0 a1_1 a1_2 a1_3 a1_4).bind fun r=>K (o106 r)
 | _,_=>none
def q106:Cal Rw:=⟨106,false,Q106⟩
def O106:List (Cal Rw):=[]
def K106:List (Cut Rw):=[]
theorem d106:G8 Tryz.prog q106:=fn_d (O:=O106) (cs:=K106) nil_ mixed Tryz.func106 nil_ nil_ fun k a h Z K z e=>by
 unfold Q106 at e;split at e
 · rename_i a0_0 a0_1 a0_2 a0_3 a0_4 a1_0 a1_1 a1_2 a1_3 a1_4
   exact ent e (Lo.of (b:=(if a0_0=a1_0 then (if a0_1=a1_1 then (if a0_2=a1_2 then (if a0_3=a1_3 then (if a0_4=a1_4 then (some (o106 true)) else (some (o106 false))) else (some (o106 false))) else (some (o106 false))) else (some (o106 false))) else (some (o106 false)))) (by kernel_rfl) (by unfold A0q.f;exact lo_))
 · cases e
def o44 (l0:List S110) (l1:List S110) (r:Bool):Out Rw:=⟨[.c (.sc (.b r))],[.rows 0 (.e110 l0),.rows 0 (.e110 l1)]⟩
def Q44:Mean Rw:=fun k a h Z K=>match a,h with
 | [.w (.c (.rw 0)),.w (.c (.rw 1))],[.rows 0 (.e110 l0),.rows 0 (.e110 l1)]=>(P3.f k l0 l1).bind fun r=>K (o44 l0 l1 r)
 | _,_=>none
def q44:Cal Rw:=⟨44,false,Q44⟩
def O44:List (Cal Rw):=[q106]
def C2r:Nat→St Rw→Option (Out Rw):=fun k st=>match st with
 | ⟨27,2,2,[(0,.w (.c (.rw 0))),(1,.w (.c (.rw 1))),(5,.w (.c (.sc (.i .i64 x5))))],[(0,.rows 0 (.e110 l0)),(1,.rows 0 (.e110 l1))]⟩=>(P3.l0 k l0 l1 x5).bind fun r=>some (o44 l0 l1 r)
 | _=>none
def K44:List (Cut Rw):=[⟨[false,true,false,true,true],[0,1,5],C2r⟩]
theorem D4o:HH Tryz.prog O44 K44 Tryz.f44 [false,true,false,true,true] C2r:=fun k st out h=>by
 unfold C2r at h;split at h
 · rename_i x5 l0 l1
   exact Lo.of (b:=(if x5<(l0.length:Int) then (if 0≤x5 then (if x5<(l0.length:Int) then (if 0≤x5 then (if x5<(l1.length:Int) then ((A0q.f (A4 l0 x5).f0 (A4 l0 x5).f1 (A4 l0 x5).f2 (A4 l0 x5).f3 (A4 l0 x5).f4 (A4 l1 x5).f0 (A4 l1 x5).f1 (A4 l1 x5).f2 (A4 l1 x5).f3 (A4 l1 x5).f4).bind fun r4=>(if r4=true then ((P3.l0 k l0 l1 (RowKit.wrap64 (x5+1))).bind fun r=>some (o44 l0 l1 r)) else (some (o44 l0 l1 false)))) else none) else none) else none) else none) else (some (o44 l0 l1 true)))) (by kernel_rfl) (by rw [P3.l0];exact lo_) _ h
 · cases h
theorem d44:G8 Tryz.prog q44:=fn_d (O:=O44) (cs:=K44) (C0 d106 nil_) mixed Tryz.func44 (C0 (fun st=>by show C2r 0 st=none;unfold C2r;split<;>rfl) nil_) (C0 D4o nil_) fun k a h Z K z e=>by
 unfold Q44 at e;split at e
 · rename_i l0 l1
   exact ent e (Lo.of (b:=(if (l0.length:Int)=(l1.length:Int) then ((P3.l0 k l0 l1 0).bind fun r=>some (o44 l0 l1 r)) else (some (o44 l0 l1 false)))) (by kernel_rfl) (by unfold P3.f;exact lo_))
 · cases e
def o107 (r:Bool):Out Rw:=⟨[.c (.sc (.b r))],[]⟩
def Q107:Mean Rw:=fun k a h Z K=>match a,h with
 | [.w (.ag [.sc (.i .i64 a0_0),.sc (.i .i64 a0_1),.sc (.i .i64 a0_2),.sc (.i .i64 a0_3),.sc (.i .i64 a0_4),.sc (.i .i64 a0_5),.sc (.i .i64 a0_6),.sc (.i .i64 a0_7)]),.w (.ag [.sc (.i .i64 a1_0),.sc (.i .i64 a1_1),.sc (.i .i64 a1_2),.sc (.i .i64 a1_3),.sc (.i .i64 a1_4),.sc (.i .i64 a1_5),.sc (.i .i64 a1_6),.sc (.i .i64 a1_7)])],[]=>(Y1.f a0_0 a0_1 a0_2 a0_3 a0_4 a0_5 a0_6 a0_7 a1_0 a1_1 a1_2 a1_3 a1_4 a1_5 a1_6 a1_7).bind fun r=>K (o107 r)
 | _,_=>none
def q107:Cal Rw:=⟨107,false,Q107⟩
def O107:List (Cal Rw):=[]
def K107:List (Cut Rw):=[]
theorem d107:G8 Tryz.prog q107:=fn_d (O:=O107) (cs:=K107) nil_ mixed Tryz.func107 nil_ nil_ fun k a h Z K z e=>by
 unfold Q107 at e;split at e
 · rename_i a0_0 a0_1 a0_2 a0_3 a0_4 a0_5 a0_6 a0_7 a1_0 a1_1 a1_2 a1_3 a1_4 a1_5 a1_6 a1_7
   exact ent e (Lo.of (b:=(if a0_0=a1_0 then (if a0_1=a1_1 then (if a0_2=a1_2 then (if a0_3=a1_3 then (if a0_4=a1_4 then (if a0_5=a1_5 then (if a0_6=a1_6 then (if a0_7=a1_7 then (some (o107 true)) else (some (o107 false))) else (some (o107 false))) else (some (o107 false))) else (some (o107 false))) else (some (o107 false))) else (some (o107 false))) else (some (o107 false))) else (some (o107 false)))) (by kernel_rfl) (by unfold Y1.f;exact lo_))
 · cases e
def o45 (l0:List S60) (l1:List S60) (r:Bool):Out Rw:=⟨[.c (.sc (.b r))],[.rows 0 (.e60 l0),.rows 0 (.e60 l1)]⟩
def Q45:Mean Rw:=fun k a h Z K=>match a,h with
 | [.w (.c (.rw 0)),.w (.c (.rw 1))],[.rows 0 (.e60 l0),.rows 0 (.e60 l1)]=>(N4.f k l0 l1).bind fun r=>K (o45 l0 l1 r)
 | _,_=>none
def q45:Cal Rw:=⟨45,false,Q45⟩
def O45:List (Cal Rw):=[q107]
def C2q:Nat→St Rw→Option (Out Rw):=fun k st=>match st with
 | ⟨27,2,2,[(0,.w (.c (.rw 0))),(1,.w (.c (.rw 1))),(5,.w (.c (.sc (.i .i64 x5))))],[(0,.rows 0 (.e60 l0)),(1,.rows 0 (.e60 l1))]⟩=>(N4.l0 k l0 l1 x5).bind fun r=>some (o45 l0 l1 r)
 | _=>none
def K45:List (Cut Rw):=[⟨[false,true,false,true,true],[0,1,5],C2q⟩]
theorem D4n:HH Tryz.prog O45 K45 Tryz.f45 [false,true,false,true,true] C2q:=fun k st out h=>by
 unfold C2q at h;split at h
 · rename_i x5 l0 l1
   exact Lo.of (b:=(if x5<(l0.length:Int) then (if 0≤x5 then (if x5<(l0.length:Int) then (if 0≤x5 then (if x5<(l1.length:Int) then ((Y1.f (B7 l0 x5).f0 (B7 l0 x5).f1 (B7 l0 x5).f2 (B7 l0 x5).f3 (B7 l0 x5).f4 (B7 l0 x5).f5 (B7 l0 x5).f6 (B7 l0 x5).f7 (B7 l1 x5).f0 (B7 l1 x5).f1 (B7 l1 x5).f2 (B7 l1 x5).f3 (B7 l1 x5).f4 (B7 l1 x5).f5 (B7 l1 x5).f6 (B7 l1 x5).f7).bind fun r4=>(if r4=true then ((N4.l0 k l0 l1 (RowKit.wrap64 (x5+1))).bind fun r=>some (o45 l0 l1 r)) else (some (o45 l0 l1 false)))) else none) else none) else none) else none) else (some (o45 l0 l1 true)))) (by kernel_rfl) (by rw [N4.l0];exact lo_) _ h
 · cases h
theorem d45:G8 Tryz.prog q45:=fn_d (O:=O45) (cs:=K45) (C0 d107 nil_) mixed Tryz.func45 (C0 (fun st=>by show C2q 0 st=none;unfold C2q;split<;>rfl) nil_) (C0 D4n nil_) fun k a h Z K z e=>by
 unfold Q45 at e;split at e
 · rename_i l0 l1
   exact ent e (Lo.of (b:=(if (l0.length:Int)=(l1.length:Int) then ((N4.l0 k l0 l1 0).bind fun r=>some (o45 l0 l1 r)) else (some (o45 l0 l1 false)))) (by kernel_rfl) (by unfold N4.f;exact lo_))
 · cases e
def o12 (l0_0:List S80) (l0_1:List S84) (l0_2:List S106) (l0_3:List S110) (l0_4:List S60) (l1_0:List S80) (l1_1:List S84) (l1_2:List S106) (l1_3:List S110) (l1_4:List S60) (r:Bool):Out Rw:=⟨[.c (.sc (.b r))],[.rows 0 (.e80 l0_0),.rows 0 (.e84 l0_1),.rows 0 (.e106 l0_2),.rows 0 (.e110 l0_3),.rows 0 (.e60 l0_4),.rows 0 (.e80 l1_0),.rows 0 (.e84 l1_1),.rows 0 (.e106 l1_2),.rows 0 (.e110 l1_3),.rows 0 (.e60 l1_4)]⟩
def Q12:Mean Rw:=fun k a h Z K=>match a,h with
 | [.w (.ag [.rw 0,.rw 1,.rw 2,.rw 3,.rw 4,.sc (.i .i64 a0_5)]),.w (.ag [.rw 5,.rw 6,.rw 7,.rw 8,.rw 9,.sc (.i .i64 a1_5)])],[.rows 0 (.e80 l0_0),.rows 0 (.e84 l0_1),.rows 0 (.e106 l0_2),.rows 0 (.e110 l0_3),.rows 0 (.e60 l0_4),.rows 0 (.e80 l1_0),.rows 0 (.e84 l1_1),.rows 0 (.e106 l1_2),.rows 0 (.e110 l1_3),.rows 0 (.e60 l1_4)]=>(R6.f k l0_0 l0_1 l0_2 l0_3 l0_4 a0_5 l1_0 l1_1 l1_2 l1_3 l1_4 a1_5).bind fun r=>K (o12 l0_0 l0_1 l0_2 l0_3 l0_4 l1_0 l1_1 l1_2 l1_3 l1_4 r)
 | _,_=>none
def q12:Cal Rw:=⟨12,false,Q12⟩
def O12:List (Cal Rw):=[q41,q42,q43,q44,q45]
def K12:List (Cut Rw):=[]
theorem d12:G8 Tryz.prog q12:=fn_d (O:=O12) (cs:=K12) (C0 d41 (C0 d42 (C0 d43 (C0 d44 (C0 d45 nil_))))) mixed Tryz.func12 nil_ nil_ fun k a h Z K z e=>by
 unfold Q12 at e;split at e
 · rename_i a0_5 a1_5 l0_0 l0_1 l0_2 l0_3 l0_4 l1_0 l1_1 l1_2 l1_3 l1_4
   exact ent e (Lo.of (b:=((L0.f k l0_0 l1_0).bind fun r13=>(if r13=true then ((N5.f k l0_1 l1_1).bind fun r14=>(if r14=true then ((P4.f k l0_2 l1_2).bind fun r15=>(if r15=true then ((P3.f k l0_3 l1_3).bind fun r16=>(if r16=true then ((N4.f k l0_4 l1_4).bind fun r17=>(if r17=true then (if a0_5=a1_5 then (some (o12 l0_0 l0_1 l0_2 l0_3 l0_4 l1_0 l1_1 l1_2 l1_3 l1_4 true)) else (some (o12 l0_0 l0_1 l0_2 l0_3 l0_4 l1_0 l1_1 l1_2 l1_3 l1_4 false))) else (some (o12 l0_0 l0_1 l0_2 l0_3 l0_4 l1_0 l1_1 l1_2 l1_3 l1_4 false)))) else (some (o12 l0_0 l0_1 l0_2 l0_3 l0_4 l1_0 l1_1 l1_2 l1_3 l1_4 false)))) else (some (o12 l0_0 l0_1 l0_2 l0_3 l0_4 l1_0 l1_1 l1_2 l1_3 l1_4 false)))) else (some (o12 l0_0 l0_1 l0_2 l0_3 l0_4 l1_0 l1_1 l1_2 l1_3 l1_4 false)))) else (some (o12 l0_0 l0_1 l0_2 l0_3 l0_4 l1_0 l1_1 l1_2 l1_3 l1_4 false))))) (by kernel_rfl) (by unfold R6.f;exact lo_))
 · cases e
def o46 (r:Int×(List (S80))):Out Rw:=⟨[.c (.sc (.i .i64 r.1))],[.rows 1 (.e80 r.2)]⟩
def Q46:Mean Rw:=fun k a h Z K=>match a,h with
 | [.w (.c (.rw 0)),.w (.c (.sc (.i .i64 a1)))],[.rows 1 (.e80 l0)]=>(I9.f k l0 a1).bind fun r=>K (o46 r)
 | _,_=>none
def q46:Cal Rw:=⟨46,true,Q46⟩
def O46:List (Cal Rw):=[]
def C2p:Nat→St Rw→Option (Out Rw):=fun k st=>match st with
 | ⟨27,1,1,[(0,.w (.c (.rw 0))),(1,.w (.c (.sc (.i .i64 x1)))),(5,.w (.c (.sc (.i .i64 x5))))],[(0,.rows 1 (.e80 l0))]⟩=>(I9.l0 k l0 x1 x5).bind fun r=>some (o46 r)
 | _=>none
def K46:List (Cut Rw):=[⟨[false,true,false,true],[0,1,5],C2p⟩]
theorem D4m:HH Tryz.prog O46 K46 Tryz.f46 [false,true,false,true] C2p:=fun k st out h=>by
 unfold C2p at h;split at h
 · rename_i x1 x5 l0
   exact Lo.of (b:=(if x5<(l0.length:Int) then (if 0≤x5 then (if x5<(l0.length:Int) then ((some (l0.set x5.toNat (⟨x1,(M2 l0 x5).f1⟩:S80))).bind fun y4=>(if 0≤x5 then (if x5<(y4.length:Int) then ((some (y4.set x5.toNat (⟨(M2 y4 x5).f0,RowKit.wrap64 (x1+1)⟩:S80))).bind fun y5=>((I9.l0 k y5 (RowKit.wrap64 (RowKit.wrap64 (x1+1)+1)) (RowKit.wrap64 (x5+1))).bind fun r=>some (o46 r))) else none) else none)) else none) else none) else (some (o46 (x1,l0))))) (by kernel_rfl) (by rw [I9.l0];exact lo_) _ h
 · cases h
theorem d46:G8 Tryz.prog q46:=fn_d (O:=O46) (cs:=K46) nil_ mixed Tryz.func46 (C0 (fun st=>by show C2p 0 st=none;unfold C2p;split<;>rfl) nil_) (C0 D4m nil_) fun k a h Z K z e=>by
 unfold Q46 at e;split at e
 · rename_i a1 l0
   exact ent e (Lo.of (b:=((I9.l0 k l0 a1 0).bind fun r=>some (o46 r))) (by kernel_rfl) (by unfold I9.f;exact lo_))
 · cases e
def o47 (r:Int×(List (S84))):Out Rw:=⟨[.c (.sc (.i .i64 r.1))],[.rows 1 (.e84 r.2)]⟩
def Q47:Mean Rw:=fun k a h Z K=>match a,h with
 | [.w (.c (.rw 0)),.w (.c (.sc (.i .i64 a1)))],[.rows 1 (.e84 l0)]=>(K5.f k l0 a1).bind fun r=>K (o47 r)
 | _,_=>none
def q47:Cal Rw:=⟨47,true,Q47⟩
def O47:List (Cal Rw):=[]
def C2o:Nat→St Rw→Option (Out Rw):=fun k st=>match st with
 | ⟨27,1,1,[(0,.w (.c (.rw 0))),(1,.w (.c (.sc (.i .i64 x1)))),(5,.w (.c (.sc (.i .i64 x5))))],[(0,.rows 1 (.e84 l0))]⟩=>(K5.l0 k l0 x1 x5).bind fun r=>some (o47 r)
 | _=>none
def K47:List (Cut Rw):=[⟨[false,true,false,true],[0,1,5],C2o⟩]
theorem D4l:HH Tryz.prog O47 K47 Tryz.f47 [false,true,false,true] C2o:=fun k st out h=>by
 unfold C2o at h;split at h
 · rename_i x1 x5 l0
   exact Lo.of (b:=(if x5<(l0.length:Int) then (if 0≤x5 then (if x5<(l0.length:Int) then ((some (l0.set x5.toNat (⟨x1,(M5 l0 x5).f1⟩:S84))).bind fun y4=>(if 0≤x5 then (if x5<(y4.length:Int) then ((some (y4.set x5.toNat (⟨(M5 y4 x5).f0,RowKit.wrap64 (x1+1)⟩:S84))).bind fun y5=>((K5.l0 k y5 (RowKit.wrap64 (RowKit.wrap64 (x1+1)+1)) (RowKit.wrap64 (x5+1))).bind fun r=>some (o47 r))) else none) else none)) else none) else none) else (some (o47 (x1,l0))))) (by kernel_rfl) (by rw [K5.l0];exact lo_) _ h
 · cases h
theorem d47:G8 Tryz.prog q47:=fn_d (O:=O47) (cs:=K47) nil_ mixed Tryz.func47 (C0 (fun st=>by show C2o 0 st=none;unfold C2o;split<;>rfl) nil_) (C0 D4l nil_) fun k a h Z K z e=>by
 unfold Q47 at e;split at e
 · rename_i a1 l0
   exact ent e (Lo.of (b:=((K5.l0 k l0 a1 0).bind fun r=>some (o47 r))) (by kernel_rfl) (by unfold K5.f;exact lo_))
 · cases e
def o48 (r:Int×(List (S106))):Out Rw:=⟨[.c (.sc (.i .i64 r.1))],[.rows 1 (.e106 r.2)]⟩
def Q48:Mean Rw:=fun k a h Z K=>match a,h with
 | [.w (.c (.rw 0)),.w (.c (.sc (.i .i64 a1)))],[.rows 1 (.e106 l0)]=>(N0.f k l0 a1).bind fun r=>K (o48 r)
 | _,_=>none
def q48:Cal Rw:=⟨48,true,Q48⟩
def O48:List (Cal Rw):=[]
def C2n:Nat→St Rw→Option (Out Rw):=fun k st=>match st with
 | ⟨34,1,1,[(0,.w (.c (.rw 0))),(1,.w (.c (.sc (.i .i64 x1)))),(5,.w (.c (.sc (.i .i64 x5))))],[(0,.rows 1 (.e106 l0))]⟩=>(N0.l0 k l0 x1 x5).bind fun r=>some (o48 r)
 | _=>none
def K48:List (Cut Rw):=[⟨[false,true,false,true],[0,1,5],C2n⟩]
theorem D4k:HH Tryz.prog O48 K48 Tryz.f48 [false,true,false,true] C2n:=fun k st out h=>by
 unfold C2n at h;split at h
 · rename_i x1 x5 l0
   exact Lo.of (b:=(if x5<(l0.length:Int) then (if 0≤x5 then (if x5<(l0.length:Int) then ((some (l0.set x5.toNat (⟨x1,(C8 l0 x5).f1,(C8 l0 x5).f2⟩:S106))).bind fun y4=>(if 0≤x5 then (if x5<(y4.length:Int) then ((some (y4.set x5.toNat (⟨(C8 y4 x5).f0,RowKit.wrap64 (x1+1),(C8 y4 x5).f2⟩:S106))).bind fun y5=>(if 0≤x5 then (if x5<(y5.length:Int) then ((some (y5.set x5.toNat (⟨(C8 y5 x5).f0,(C8 y5 x5).f1,RowKit.wrap64 (RowKit.wrap64 (x1+1)+1)⟩:S106))).bind fun y6=>((N0.l0 k y6 (RowKit.wrap64 (RowKit.wrap64 (RowKit.wrap64 (x1+1)+1)+1)) (RowKit.wrap64 (x5+1))).bind fun r=>some (o48 r))) else none) else none)) else none) else none)) else none) else none) else (some (o48 (x1,l0))))) (by kernel_rfl) (by rw [N0.l0];exact lo_) _ h
 · cases h
theorem d48:G8 Tryz.prog q48:=fn_d (O:=O48) (cs:=K48) nil_ mixed Tryz.func48 (C0 (fun st=>by show C2n 0 st=none;unfold C2n;split<;>rfl) nil_) (C0 D4k nil_) fun k a h Z K z e=>by
 unfold Q48 at e;split at e
 · rename_i a1 l0
   exact ent e (Lo.of (b:=((N0.l0 k l0 a1 0).bind fun r=>some (o48 r))) (by kernel_rfl) (by unfold N0.f;exact lo_))
 · cases e
def o49 (r:Int×(List (S110))):Out Rw:=⟨[.c (.sc (.i .i64 r.1))],[.rows 1 (.e110 r.2)]⟩
def Q49:Mean Rw:=fun k a h Z K=>match a,h with
 | [.w (.c (.rw 0)),.w (.c (.sc (.i .i64 a1)))],[.rows 1 (.e110 l0)]=>(M9.f k l0 a1).bind fun r=>K (o49 r)
 | _,_=>none
def q49:Cal Rw:=⟨49,true,Q49⟩
def O49:List (Cal Rw):=[]
def C2m:Nat→St Rw→Option (Out Rw):=fun k st=>match st with
 | ⟨48,1,1,[(0,.w (.c (.rw 0))),(1,.w (.c (.sc (.i .i64 x1)))),(5,.w (.c (.sc (.i .i64 x5))))],[(0,.rows 1 (.e110 l0))]⟩=>(M9.l0 k l0 x1 x5).bind fun r=>some (o49 r)
 | _=>none
def K49:List (Cut Rw):=[⟨[false,true,false,true],[0,1,5],C2m⟩]
theorem D4j:HH Tryz.prog O49 K49 Tryz.f49 [false,true,false,true] C2m:=fun k st out h=>by
 unfold C2m at h;split at h
 · rename_i x1 x5 l0
   exact Lo.of (b:=(if x5<(l0.length:Int) then (if 0≤x5 then (if x5<(l0.length:Int) then ((some (l0.set x5.toNat (⟨x1,(A4 l0 x5).f1,(A4 l0 x5).f2,(A4 l0 x5).f3,(A4 l0 x5).f4⟩:S110))).bind fun y4=>(if 0≤x5 then (if x5<(y4.length:Int) then ((some (y4.set x5.toNat (⟨(A4 y4 x5).f0,RowKit.wrap64 (x1+1),(A4 y4 x5).f2,(A4 y4 x5).f3,(A4 y4 x5).f4⟩:S110))).bind fun y5=>(if 0≤x5 then (if x5<(y5.length:Int) then ((some (y5.set x5.toNat (⟨(A4 y5 x5).f0,(A4 y5 x5).f1,RowKit.wrap64 (RowKit.wrap64 (x1+1)+1),(A4 y5 x5).f3,(A4 y5 x5).f4⟩:S110))).bind fun y6=>(if 0≤x5 then (if x5<(y6.length:Int) then ((some (y6.set x5.toNat (⟨(A4 y6 x5).f0,(A4 y6 x5).f1,(A4 y6 x5).f2,RowKit.wrap64 (RowKit.wrap64 (RowKit.wrap64 (x1+1)+1)+1),(A4 y6 x5).f4⟩:S110))).bind fun y7=>(if 0≤x5 then (if x5<(y7.length:Int) then ((some (y7.set x5.toNat (⟨(A4 y7 x5).f0,(A4 y7 x5).f1,(A4 y7 x5).f2,(A4 y7 x5).f3,RowKit.wrap64 (RowKit.wrap64 (RowKit.wrap64 (RowKit.wrap64 (x1+1)+1)+1)+1)⟩:S110))).bind fun y8=>((M9.l0 k y8 (RowKit.wrap64 (RowKit.wrap64 (RowKit.wrap64 (RowKit.wrap64 (RowKit.wrap64 (x1+1)+1)+1)+1)+1)) (RowKit.wrap64 (x5+1))).bind fun r=>some (o49 r))) else none) else none)) else none) else none)) else none) else none)) else none) else none)) else none) else none) else (some (o49 (x1,l0))))) (by kernel_rfl) (by rw [M9.l0];exact lo_) _ h
 · cases h
theorem d49:G8 Tryz.prog q49:=fn_d (O:=O49) (cs:=K49) nil_ mixed Tryz.func49 (C0 (fun st=>by show C2m 0 st=none;unfold C2m;split<;>rfl) nil_) (C0 D4j nil_) fun k a h Z K z e=>by
 unfold Q49 at e;split at e
 · rename_i a1 l0
   exact ent e (Lo.of (b:=((M9.l0 k l0 a1 0).bind fun r=>some (o49 r))) (by kernel_rfl) (by unfold M9.f;exact lo_))
 · cases e
end
end Go.Proofs.YtmfgajbkcnlkcaaGreat.AI
namespace Go.Proofs.YtmfgajbkcnlkcaaGreat.AI
open Go Go.RowKit Go.Proofs.YtmfgajbkcnlkcaaGreatW.PrintWords Go.Proofs.YtmfgajbkcnlkcaaGreat.P
set_option linter.unusedVariables false
set_option linter.all false
set_option maxRecDepth 100000
set_option maxHeartbeats 4000000
noncomputable section
def o50 (r:Int×(List (S60))):Out Rw:=⟨[.c (.sc (.i .i64 r.1))],[.rows 1 (.e60 r.2)]⟩
def Q50:Mean Rw:=fun k a h Z K=>match a,h with
 | [.w (.c (.rw 0)),.w (.c (.sc (.i .i64 a1)))],[.rows 1 (.e60 l0)]=>(K4.f k l0 a1).bind fun r=>K (o50 r)
 | _,_=>none
def q50:Cal Rw:=⟨50,true,Q50⟩
def O50:List (Cal Rw):=[]
def C2l:Nat→St Rw→Option (Out Rw):=fun k st=>match st with
 | ⟨69,1,1,[(0,.w (.c (.rw 0))),(1,.w (.c (.sc (.i .i64 x1)))),(5,.w (.c (.sc (.i .i64 x5))))],[(0,.rows 1 (.e60 l0))]⟩=>(K4.l0 k l0 x1 x5).bind fun r=>some (o50 r)
 | _=>none
def K50:List (Cut Rw):=[⟨[false,true,false,true],[0,1,5],C2l⟩]
theorem D4i:HH Tryz.prog O50 K50 Tryz.f50 [false,true,false,true] C2l:=fun k st out h=>by
 unfold C2l at h;split at h
 · rename_i x1 x5 l0
   exact Lo.of (b:=(if x5<(l0.length:Int) then (if 0≤x5 then (if x5<(l0.length:Int) then ((some (l0.set x5.toNat (⟨x1,(B7 l0 x5).f1,(B7 l0 x5).f2,(B7 l0 x5).f3,(B7 l0 x5).f4,(B7 l0 x5).f5,(B7 l0 x5).f6,(B7 l0 x5).f7⟩:S60))).bind fun y4=>(if 0≤x5 then (if x5<(y4.length:Int) then ((some (y4.set x5.toNat (⟨(B7 y4 x5).f0,RowKit.wrap64 (x1+1),(B7 y4 x5).f2,(B7 y4 x5).f3,(B7 y4 x5).f4,(B7 y4 x5).f5,(B7 y4 x5).f6,(B7 y4 x5).f7⟩:S60))).bind fun y5=>(if 0≤x5 then (if x5<(y5.length:Int) then ((some (y5.set x5.toNat (⟨(B7 y5 x5).f0,(B7 y5 x5).f1,RowKit.wrap64 (RowKit.wrap64 (x1+1)+1),(B7 y5 x5).f3,(B7 y5 x5).f4,(B7 y5 x5).f5,(B7 y5 x5).f6,(B7 y5 x5).f7⟩:S60))).bind fun y6=>(if 0≤x5 then (if x5<(y6.length:Int) then ((some (y6.set x5.toNat (⟨(B7 y6 x5).f0,(B7 y6 x5).f1,(B7 y6 x5).f2,RowKit.wrap64 (RowKit.wrap64 (RowKit.wrap64 (x1+1)+1)+1),(B7 y6 x5).f4,(B7 y6 x5).f5,(B7 y6 x5).f6,(B7 y6 x5).f7⟩:S60))).bind fun y7=>(if 0≤x5 then (if x5<(y7.length:Int) then ((some (y7.set x5.toNat (⟨(B7 y7 x5).f0,(B7 y7 x5).f1,(B7 y7 x5).f2,(B7 y7 x5).f3,RowKit.wrap64 (RowKit.wrap64 (RowKit.wrap64 (RowKit.wrap64 (x1+1)+1)+1)+1),(B7 y7 x5).f5,(B7 y7 x5).f6,(B7 y7 x5).f7⟩:S60))).bind fun y8=>(if 0≤x5 then (if x5<(y8.length:Int) then ((some (y8.set x5.toNat (⟨(B7 y8 x5).f0,(B7 y8 x5).f1,(B7 y8 x5).f2,(B7 y8 x5).f3,(B7 y8 x5).f4,RowKit.wrap64 (RowKit.wrap64 (RowKit.wrap64 (RowKit.wrap64 (RowKit.wrap64 (x1+1)+1)+1)+1)+1),(B7 y8 x5).f6,(B7 y8 x5).f7⟩:S60))).bind fun y9=>(if 0≤x5 then (if x5<(y9.length:Int) then ((some (y9.set x5.toNat (⟨(B7 y9 x5).f0,(B7 y9 x5).f1,(B7 y9 x5).f2,(B7 y9 x5).f3,(B7 y9 x5).f4,(B7 y9 x5).f5,RowKit.wrap64 (RowKit.wrap64 (RowKit.wrap64 (RowKit.wrap64 (RowKit.wrap64 (RowKit.wrap64 (x1+1)+1)+1)+1)+1)+1),(B7 y9 x5).f7⟩:S60))).bind fun y10=>(if 0≤x5 then (if x5<(y10.length:Int) then ((some (y10.set x5.toNat (⟨(B7 y10 x5).f0,(B7 y10 x5).f1,(B7 y10 x5).f2,(B7 y10 x5).f3,(B7 y10 x5).f4,(B7 y10 x5).f5,(B7 y10 x5).f6,RowKit.wrap64 (RowKit.wrap64 (RowKit.wrap64 (RowKit.wrap64 (RowKit.wrap64 (RowKit.wrap64 (RowKit.wrap64 (x1+1)+1)+1)+1)+1)+1)+1)⟩:S60))).bind fun y11=>((K4.l0 k y11 (RowKit.wrap64 (RowKit.wrap64 (RowKit.wrap64 (RowKit.wrap64 (RowKit.wrap64 (RowKit.wrap64 (RowKit.wrap64 (RowKit.wrap64 (x1+1)+1)+1)+1)+1)+1)+1)+1)) (RowKit.wrap64 (x5+1))).bind fun r=>some (o50 r))) else none) else none)) else none) else none)) else none) else none)) else none) else none)) else none) else none)) else none) else none)) else none) else none)) else none) else none) else (some (o50 (x1,l0))))) (by kernel_rfl) (by rw [K4.l0];exact lo_) _ h
 · cases h
theorem d50:G8 Tryz.prog q50:=fn_d (O:=O50) (cs:=K50) nil_ mixed Tryz.func50 (C0 (fun st=>by show C2l 0 st=none;unfold C2l;split<;>rfl) nil_) (C0 D4i nil_) fun k a h Z K z e=>by
 unfold Q50 at e;split at e
 · rename_i a1 l0
   exact ent e (Lo.of (b:=((K4.l0 k l0 a1 0).bind fun r=>some (o50 r))) (by kernel_rfl) (by unfold K4.f;exact lo_))
 · cases e
def o13 (r:Int×(List (S80))×(List (S84))×(List (S106))×(List (S110))×(List (S60))):Out Rw:=⟨[.c (.sc (.i .i64 r.1))],[.rows 1 (.e80 r.2.1),.rows 1 (.e84 r.2.2.1),.rows 1 (.e106 r.2.2.2.1),.rows 1 (.e110 r.2.2.2.2.1),.rows 1 (.e60 r.2.2.2.2.2)]⟩
def Q13:Mean Rw:=fun k a h Z K=>match a,h with
 | [.w (.ag [.rw 0,.rw 1,.rw 2,.rw 3,.rw 4,.sc (.i .i64 a0_5)]),.w (.c (.sc (.i .i64 a1)))],[.rows 1 (.e80 l0_0),.rows 1 (.e84 l0_1),.rows 1 (.e106 l0_2),.rows 1 (.e110 l0_3),.rows 1 (.e60 l0_4)]=>(S6.f k l0_0 l0_1 l0_2 l0_3 l0_4 a0_5 a1).bind fun r=>K (o13 r)
 | _,_=>none
def q13:Cal Rw:=⟨13,true,Q13⟩
def O13:List (Cal Rw):=[q46,q47,q48,q49,q50]
def K13:List (Cut Rw):=[]
theorem d13:G8 Tryz.prog q13:=fn_d (O:=O13) (cs:=K13) (C0 d46 (C0 d47 (C0 d48 (C0 d49 (C0 d50 nil_))))) mixed Tryz.func13 nil_ nil_ fun k a h Z K z e=>by
 unfold Q13 at e;split at e
 · rename_i a0_5 a1 l0_0 l0_1 l0_2 l0_3 l0_4
   exact ent e (Lo.of (b:=((I9.f k l0_0 a1).bind fun r8=>((K5.f k l0_1 r8.1).bind fun r9=>((N0.f k l0_2 r9.1).bind fun r10=>((M9.f k l0_3 r10.1).bind fun r11=>((K4.f k l0_4 r11.1).bind fun r12=>(some (o13 (r12.1,r8.2,r9.2,r10.2,r11.2,r12.2))))))))) (by kernel_rfl) (by unfold S6.f;exact lo_))
 · cases e
def o51 (l0:List S80) (r:Int):Out Rw:=⟨[.c (.sc (.i .i64 r))],[.rows 0 (.e80 l0)]⟩
def Q51:Mean Rw:=fun k a h Z K=>match a,h with
 | [.w (.c (.rw 0)),.w (.c (.sc (.i .i64 a1)))],[.rows 0 (.e80 l0)]=>(J0.f k l0 a1).bind fun r=>K (o51 l0 r)
 | _,_=>none
def q51:Cal Rw:=⟨51,false,Q51⟩
def O51:List (Cal Rw):=[]
def C2k:Nat→St Rw→Option (Out Rw):=fun k st=>match st with
 | ⟨31,1,1,[(0,.w (.c (.rw 0))),(1,.w (.c (.sc (.i .i64 x1)))),(5,.w (.c (.sc (.i .i64 x5))))],[(0,.rows 0 (.e80 l0))]⟩=>(J0.l0 k l0 x1 x5).bind fun r=>some (o51 l0 r)
 | _=>none
def K51:List (Cut Rw):=[⟨[false,true,false,true],[0,1,5],C2k⟩]
theorem D4h:HH Tryz.prog O51 K51 Tryz.f51 [false,true,false,true] C2k:=fun k st out h=>by
 unfold C2k at h;split at h
 · rename_i x1 x5 l0
   exact Lo.of (b:=(if x5<(l0.length:Int) then (if 0≤x5 then (if x5<(l0.length:Int) then (if (M2 l0 x5).f0=x1 then (if 0≤x5 then (if x5<(l0.length:Int) then (if (M2 l0 x5).f1=RowKit.wrap64 (x1+1) then ((J0.l0 k l0 (RowKit.wrap64 (RowKit.wrap64 (x1+1)+1)) (RowKit.wrap64 (x5+1))).bind fun r=>some (o51 l0 r)) else (some (o51 l0 (-1)))) else none) else none) else (some (o51 l0 (-1)))) else none) else none) else (some (o51 l0 x1)))) (by kernel_rfl) (by rw [J0.l0];exact lo_) _ h
 · cases h
theorem d51:G8 Tryz.prog q51:=fn_d (O:=O51) (cs:=K51) nil_ mixed Tryz.func51 (C0 (fun st=>by show C2k 0 st=none;unfold C2k;split<;>rfl) nil_) (C0 D4h nil_) fun k a h Z K z e=>by
 unfold Q51 at e;split at e
 · rename_i a1 l0
   exact ent e (Lo.of (b:=((J0.l0 k l0 a1 0).bind fun r=>some (o51 l0 r))) (by kernel_rfl) (by unfold J0.f;exact lo_))
 · cases e
def o52 (l0:List S84) (r:Int):Out Rw:=⟨[.c (.sc (.i .i64 r))],[.rows 0 (.e84 l0)]⟩
def Q52:Mean Rw:=fun k a h Z K=>match a,h with
 | [.w (.c (.rw 0)),.w (.c (.sc (.i .i64 a1)))],[.rows 0 (.e84 l0)]=>(K9.f k l0 a1).bind fun r=>K (o52 l0 r)
 | _,_=>none
def q52:Cal Rw:=⟨52,false,Q52⟩
def O52:List (Cal Rw):=[]
def C2j:Nat→St Rw→Option (Out Rw):=fun k st=>match st with
 | ⟨31,1,1,[(0,.w (.c (.rw 0))),(1,.w (.c (.sc (.i .i64 x1)))),(5,.w (.c (.sc (.i .i64 x5))))],[(0,.rows 0 (.e84 l0))]⟩=>(K9.l0 k l0 x1 x5).bind fun r=>some (o52 l0 r)
 | _=>none
def K52:List (Cut Rw):=[⟨[false,true,false,true],[0,1,5],C2j⟩]
theorem D4g:HH Tryz.prog O52 K52 Tryz.f52 [false,true,false,true] C2j:=fun k st out h=>by
 unfold C2j at h;split at h
 · rename_i x1 x5 l0
   exact Lo.of (b:=(if x5<(l0.length:Int) then (if 0≤x5 then (if x5<(l0.length:Int) then (if (M5 l0 x5).f0=x1 then (if 0≤x5 then (if x5<(l0.length:Int) then (if (M5 l0 x5).f1=RowKit.wrap64 (x1+1) then ((K9.l0 k l0 (RowKit.wrap64 (RowKit.wrap64 (x1+1)+1)) (RowKit.wrap64 (x5+1))).bind fun r=>some (o52 l0 r)) else (some (o52 l0 (-1)))) else none) else none) else (some (o52 l0 (-1)))) else none) else none) else (some (o52 l0 x1)))) (by kernel_rfl) (by rw [K9.l0];exact lo_) _ h
 · cases h
theorem d52:G8 Tryz.prog q52:=fn_d (O:=O52) (cs:=K52) nil_ mixed Tryz.func52 (C0 (fun st=>by show C2j 0 st=none;unfold C2j;split<;>rfl) nil_) (C0 D4g nil_) fun k a h Z K z e=>by
 unfold Q52 at e;split at e
 · rename_i a1 l0
   exact ent e (Lo.of (b:=((K9.l0 k l0 a1 0).bind fun r=>some (o52 l0 r))) (by kernel_rfl) (by unfold K9.f;exact lo_))
 · cases e
def o53 (l0:List S106) (r:Int):Out Rw:=⟨[.c (.sc (.i .i64 r))],[.rows 0 (.e106 l0)]⟩
def Q53:Mean Rw:=fun k a h Z K=>match a,h with
 | [.w (.c (.rw 0)),.w (.c (.sc (.i .i64 a1)))],[.rows 0 (.e106 l0)]=>(N3.f k l0 a1).bind fun r=>K (o53 l0 r)
 | _,_=>none
def q53:Cal Rw:=⟨53,false,Q53⟩
def O53:List (Cal Rw):=[]
def C2i:Nat→St Rw→Option (Out Rw):=fun k st=>match st with
 | ⟨40,1,1,[(0,.w (.c (.rw 0))),(1,.w (.c (.sc (.i .i64 x1)))),(5,.w (.c (.sc (.i .i64 x5))))],[(0,.rows 0 (.e106 l0))]⟩=>(N3.l0 k l0 x1 x5).bind fun r=>some (o53 l0 r)
 | _=>none
def K53:List (Cut Rw):=[⟨[false,true,false,true],[0,1,5],C2i⟩]
theorem D4f:HH Tryz.prog O53 K53 Tryz.f53 [false,true,false,true] C2i:=fun k st out h=>by
 unfold C2i at h;split at h
 · rename_i x1 x5 l0
   exact Lo.of (b:=(if x5<(l0.length:Int) then (if 0≤x5 then (if x5<(l0.length:Int) then (if (C8 l0 x5).f0=x1 then (if 0≤x5 then (if x5<(l0.length:Int) then (if (C8 l0 x5).f1=RowKit.wrap64 (x1+1) then (if 0≤x5 then (if x5<(l0.length:Int) then (if (C8 l0 x5).f2=RowKit.wrap64 (RowKit.wrap64 (x1+1)+1) then ((N3.l0 k l0 (RowKit.wrap64 (RowKit.wrap64 (RowKit.wrap64 (x1+1)+1)+1)) (RowKit.wrap64 (x5+1))).bind fun r=>some (o53 l0 r)) else (some (o53 l0 (-1)))) else none) else none) else (some (o53 l0 (-1)))) else none) else none) else (some (o53 l0 (-1)))) else none) else none) else (some (o53 l0 x1)))) (by kernel_rfl) (by rw [N3.l0];exact lo_) _ h
 · cases h
theorem d53:G8 Tryz.prog q53:=fn_d (O:=O53) (cs:=K53) nil_ mixed Tryz.func53 (C0 (fun st=>by show C2i 0 st=none;unfold C2i;split<;>rfl) nil_) (C0 D4f nil_) fun k a h Z K z e=>by
 unfold Q53 at e;split at e
 · rename_i a1 l0
   exact ent e (Lo.of (b:=((N3.l0 k l0 a1 0).bind fun r=>some (o53 l0 r))) (by kernel_rfl) (by unfold N3.f;exact lo_))
 · cases e
def o54 (l0:List S110) (r:Int):Out Rw:=⟨[.c (.sc (.i .i64 r))],[.rows 0 (.e110 l0)]⟩
def Q54:Mean Rw:=fun k a h Z K=>match a,h with
 | [.w (.c (.rw 0)),.w (.c (.sc (.i .i64 a1)))],[.rows 0 (.e110 l0)]=>(N2.f k l0 a1).bind fun r=>K (o54 l0 r)
 | _,_=>none
def q54:Cal Rw:=⟨54,false,Q54⟩
def O54:List (Cal Rw):=[]
def C2h:Nat→St Rw→Option (Out Rw):=fun k st=>match st with
 | ⟨58,1,1,[(0,.w (.c (.rw 0))),(1,.w (.c (.sc (.i .i64 x1)))),(5,.w (.c (.sc (.i .i64 x5))))],[(0,.rows 0 (.e110 l0))]⟩=>(N2.l0 k l0 x1 x5).bind fun r=>some (o54 l0 r)
 | _=>none
def K54:List (Cut Rw):=[⟨[false,true,false,true],[0,1,5],C2h⟩]
theorem D4e:HH Tryz.prog O54 K54 Tryz.f54 [false,true,false,true] C2h:=fun k st out h=>by
 unfold C2h at h;split at h
 · rename_i x1 x5 l0
   exact Lo.of (b:=(if x5<(l0.length:Int) then (if 0≤x5 then (if x5<(l0.length:Int) then (if (A4 l0 x5).f0=x1 then (if 0≤x5 then (if x5<(l0.length:Int) then (if (A4 l0 x5).f1=RowKit.wrap64 (x1+1) then (if 0≤x5 then (if x5<(l0.length:Int) then (if (A4 l0 x5).f2=RowKit.wrap64 (RowKit.wrap64 (x1+1)+1) then (if 0≤x5 then (if x5<(l0.length:Int) then (if (A4 l0 x5).f3=RowKit.wrap64 (RowKit.wrap64 (RowKit.wrap64 (x1+1)+1)+1) then (if 0≤x5 then (if x5<(l0.length:Int) then (if (A4 l0 x5).f4=RowKit.wrap64 (RowKit.wrap64 (RowKit.wrap64 (RowKit.wrap64 (x1+1)+1)+1)+1) then ((N2.l0 k l0 (RowKit.wrap64 (RowKit.wrap64 (RowKit.wrap64 (RowKit.wrap64 (RowKit.wrap64 (x1+1)+1)+1)+1)+1)) (RowKit.wrap64 (x5+1))).bind fun r=>some (o54 l0 r)) else (some (o54 l0 (-1)))) else none) else none) else (some (o54 l0 (-1)))) else none) else none) else (some (o54 l0 (-1)))) else none) else none) else (some (o54 l0 (-1)))) else none) else none) else (some (o54 l0 (-1)))) else none) else none) else (some (o54 l0 x1)))) (by kernel_rfl) (by rw [N2.l0];exact lo_) _ h
 · cases h
theorem d54:G8 Tryz.prog q54:=fn_d (O:=O54) (cs:=K54) nil_ mixed Tryz.func54 (C0 (fun st=>by show C2h 0 st=none;unfold C2h;split<;>rfl) nil_) (C0 D4e nil_) fun k a h Z K z e=>by
 unfold Q54 at e;split at e
 · rename_i a1 l0
   exact ent e (Lo.of (b:=((N2.l0 k l0 a1 0).bind fun r=>some (o54 l0 r))) (by kernel_rfl) (by unfold N2.f;exact lo_))
 · cases e
def o55 (l0:List S60) (r:Int):Out Rw:=⟨[.c (.sc (.i .i64 r))],[.rows 0 (.e60 l0)]⟩
def Q55:Mean Rw:=fun k a h Z K=>match a,h with
 | [.w (.c (.rw 0)),.w (.c (.sc (.i .i64 a1)))],[.rows 0 (.e60 l0)]=>(K6.f k l0 a1).bind fun r=>K (o55 l0 r)
 | _,_=>none
def q55:Cal Rw:=⟨55,false,Q55⟩
def O55:List (Cal Rw):=[]
def C2g:Nat→St Rw→Option (Out Rw):=fun k st=>match st with
 | ⟨85,1,1,[(0,.w (.c (.rw 0))),(1,.w (.c (.sc (.i .i64 x1)))),(5,.w (.c (.sc (.i .i64 x5))))],[(0,.rows 0 (.e60 l0))]⟩=>(K6.l0 k l0 x1 x5).bind fun r=>some (o55 l0 r)
 | _=>none
def K55:List (Cut Rw):=[⟨[false,true,false,true],[0,1,5],C2g⟩]
theorem D4d:HH Tryz.prog O55 K55 Tryz.f55 [false,true,false,true] C2g:=fun k st out h=>by
 unfold C2g at h;split at h
 · rename_i x1 x5 l0
   exact Lo.of (b:=(if x5<(l0.length:Int) then (if 0≤x5 then (if x5<(l0.length:Int) then (if (B7 l0 x5).f0=x1 then (if 0≤x5 then (if x5<(l0.length:Int) then (if (B7 l0 x5).f1=RowKit.wrap64 (x1+1) then (if 0≤x5 then (if x5<(l0.length:Int) then (if (B7 l0 x5).f2=RowKit.wrap64 (RowKit.wrap64 (x1+1)+1) then (if 0≤x5 then (if x5<(l0.length:Int) then (if (B7 l0 x5).f3=RowKit.wrap64 (RowKit.wrap64 (RowKit.wrap64 (x1+1)+1)+1) then (if 0≤x5 then (if x5<(l0.length:Int) then (if (B7 l0 x5).f4=RowKit.wrap64 (RowKit.wrap64 (RowKit.wrap64 (RowKit.wrap64 (x1+1)+1)+1)+1) then (if 0≤x5 then (if x5<(l0.length:Int) then (if (B7 l0 x5).f5=RowKit.wrap64 (RowKit.wrap64 (RowKit.wrap64 (RowKit.wrap64 (RowKit.wrap64 (x1+1)+1)+1)+1)+1) then (if 0≤x5 then (if x5<(l0.length:Int) then (if (B7 l0 x5).f6=RowKit.wrap64 (RowKit.wrap64 (RowKit.wrap64 (RowKit.wrap64 (RowKit.wrap64 (RowKit.wrap64 (x1+1)+1)+1)+1)+1)+1) then (if 0≤x5 then (if x5<(l0.length:Int) then (if (B7 l0 x5).f7=RowKit.wrap64 (RowKit.wrap64 (RowKit.wrap64 (RowKit.wrap64 (RowKit.wrap64 (RowKit.wrap64 (RowKit.wrap64 (x1+1)+1)+1)+1)+1)+1)+1) then ((K6.l0 k l0 (RowKit.wrap64 (RowKit.wrap64 (RowKit.wrap64 (RowKit.wrap64 (RowKit.wrap64 (RowKit.wrap64 (RowKit.wrap64 (RowKit.wrap64 (x1+1)+1)+1)+1)+1)+1)+1)+1)) (RowKit.wrap64 (x5+1))).bind fun r=>some (o55 l0 r)) else (some (o55 l0 (-1)))) else none) else none) else (some (o55 l0 (-1)))) else none) else none) else (some (o55 l0 (-1)))) else none) else none) else (some (o55 l0 (-1)))) else none) else none) else (some (o55 l0 (-1)))) else none) else none) else (some (o55 l0 (-1)))) else none) else none) else (some (o55 l0 (-1)))) else none) else none) else (some (o55 l0 (-1)))) else none) else none) else (some (o55 l0 x1)))) (by kernel_rfl) (by rw [K6.l0];exact lo_) _ h
 · cases h
theorem d55:G8 Tryz.prog q55:=fn_d (O:=O55) (cs:=K55) nil_ mixed Tryz.func55 (C0 (fun st=>by show C2g 0 st=none;unfold C2g;split<;>rfl) nil_) (C0 D4d nil_) fun k a h Z K z e=>by
 unfold Q55 at e;split at e
 · rename_i a1 l0
   exact ent e (Lo.of (b:=((K6.l0 k l0 a1 0).bind fun r=>some (o55 l0 r))) (by kernel_rfl) (by unfold K6.f;exact lo_))
 · cases e
def o14 (l0_0:List S80) (l0_1:List S84) (l0_2:List S106) (l0_3:List S110) (l0_4:List S60) (r:Int):Out Rw:=⟨[.c (.sc (.i .i64 r))],[.rows 0 (.e80 l0_0),.rows 0 (.e84 l0_1),.rows 0 (.e106 l0_2),.rows 0 (.e110 l0_3),.rows 0 (.e60 l0_4)]⟩
def Q14:Mean Rw:=fun k a h Z K=>match a,h with
 | [.w (.ag [.rw 0,.rw 1,.rw 2,.rw 3,.rw 4,.sc (.i .i64 a0_5)]),.w (.c (.sc (.i .i64 a1)))],[.rows 0 (.e80 l0_0),.rows 0 (.e84 l0_1),.rows 0 (.e106 l0_2),.rows 0 (.e110 l0_3),.rows 0 (.e60 l0_4)]=>(S7.f k l0_0 l0_1 l0_2 l0_3 l0_4 a0_5 a1).bind fun r=>K (o14 l0_0 l0_1 l0_2 l0_3 l0_4 r)
 | _,_=>none
def q14:Cal Rw:=⟨14,false,Q14⟩
def O14:List (Cal Rw):=[q51,q52,q53,q54,q55]
def K14:List (Cut Rw):=[]
theorem d14:G8 Tryz.prog q14:=fn_d (O:=O14) (cs:=K14) (C0 d51 (C0 d52 (C0 d53 (C0 d54 (C0 d55 nil_))))) mixed Tryz.func14 nil_ nil_ fun k a h Z K z e=>by
 unfold Q14 at e;split at e
 · rename_i a0_5 a1 l0_0 l0_1 l0_2 l0_3 l0_4
   exact ent e (Lo.of (b:=((J0.f k l0_0 a1).bind fun r8=>(if r8<0 then (some (o14 l0_0 l0_1 l0_2 l0_3 l0_4 (-1))) else ((K9.f k l0_1 r8).bind fun r9=>(if r9<0 then (some (o14 l0_0 l0_1 l0_2 l0_3 l0_4 (-1))) else ((N3.f k l0_2 r9).bind fun r10=>(if r10<0 then (some (o14 l0_0 l0_1 l0_2 l0_3 l0_4 (-1))) else ((N2.f k l0_3 r10).bind fun r11=>(if r11<0 then (some (o14 l0_0 l0_1 l0_2 l0_3 l0_4 (-1))) else ((K6.f k l0_4 r11).bind fun r12=>(if r12<0 then (some (o14 l0_0 l0_1 l0_2 l0_3 l0_4 (-1))) else (some (o14 l0_0 l0_1 l0_2 l0_3 l0_4 r12))))))))))))) (by kernel_rfl) (by unfold S7.f;exact lo_))
 · cases e
def o7 (l0_0:List S103) (l0_1:List S105) (l0_2:List S108) (l0_3:List S112) (l0_4:List S114) (r:Bool):Out Rw:=⟨[.c (.sc (.b r))],[.rows 0 (.e103 l0_0),.rows 0 (.e105 l0_1),.rows 0 (.e108 l0_2),.rows 0 (.e112 l0_3),.rows 0 (.e114 l0_4)]⟩
def Q7:Mean Rw:=fun k a h Z K=>match a,h with
 | [.w (.ag [.rw 0,.rw 1,.rw 2,.rw 3,.rw 4,.sc (.i .i64 a0_5)]),.w (.c (.sc (.i .i64 a1))),.w (.c (.sc (.i .i64 a2))),.w (.c (.sc (.i .i64 a3))),.w (.c (.sc (.i .i64 a4))),.w (.c (.sc (.i .i64 a5)))],[.rows 0 (.e103 l0_0),.rows 0 (.e105 l0_1),.rows 0 (.e108 l0_2),.rows 0 (.e112 l0_3),.rows 0 (.e114 l0_4)]=>(R4.f k l0_0 l0_1 l0_2 l0_3 l0_4 a0_5 a1 a2 a3 a4 a5).bind fun r=>K (o7 l0_0 l0_1 l0_2 l0_3 l0_4 r)
 | _,_=>none
def q7:Cal Rw:=⟨7,false,Q7⟩
def O7:List (Cal Rw):=[q8,q10,q21,q22,q12,q13,q14]
def K7:List (Cut Rw):=[]
theorem d7:G8 Tryz.prog q7:=fn_d (O:=O7) (cs:=K7) (C0 d8 (C0 d10 (C0 d21 (C0 d22 (C0 d12 (C0 d13 (C0 d14 nil_))))))) mixed Tryz.func7 nil_ nil_ fun k a h Z K z e=>by
 unfold Q7 at e;split at e
 · rename_i a0_5 a1 a2 a3 a4 a5 l0_0 l0_1 l0_2 l0_3 l0_4
   exact ent e (Lo.of (b:=((V5.f l0_0 l0_1 l0_2 l0_3 l0_4 a0_5 1048576).bind fun r12=>(if r12<0 then (some (o7 l0_0 l0_1 l0_2 l0_3 l0_4 true)) else ((R5.f k l0_0 l0_1 l0_2 l0_3 l0_4 a0_5).bind fun r13=>((Y0.f k r13.1 r13.2.1 r13.2.2.1 r13.2.2.2.1 r13.2.2.2.2.1 r13.2.2.2.2.2 a1 a2 a3 a4 a5).bind fun r14=>((R5.f k l0_0 l0_1 l0_2 l0_3 l0_4 a0_5).bind fun r15=>((T8.f k r15.1 r15.2.1 r15.2.2.1 r15.2.2.2.1 r15.2.2.2.2.1 r15.2.2.2.2.2 a1 a2 a3 a4 a5).bind fun r16=>((R6.f k r16.1 r16.2.1 r16.2.2.1 r16.2.2.2.1 r16.2.2.2.2.1 r16.2.2.2.2.2.1 r14.1 r14.2.1 r14.2.2.1 r14.2.2.2.1 r14.2.2.2.2.1 r14.2.2.2.2.2.1).bind fun r17=>(if r17=true then (if r16.2.2.2.2.2.2.1=r14.2.2.2.2.2.2.1 then (if r16.2.2.2.2.2.2.2=r14.2.2.2.2.2.2.2 then ((R5.f k l0_0 l0_1 l0_2 l0_3 l0_4 a0_5).bind fun r18=>((R6.f k r15.1 r15.2.1 r15.2.2.1 r15.2.2.2.1 r15.2.2.2.2.1 r15.2.2.2.2.2 r18.1 r18.2.1 r18.2.2.1 r18.2.2.2.1 r18.2.2.2.2.1 r18.2.2.2.2.2).bind fun r19=>(if r19=true then ((S6.f k r15.1 r15.2.1 r15.2.2.1 r15.2.2.2.1 r15.2.2.2.2.1 r15.2.2.2.2.2 1).bind fun r20=>(if r20.1<0 then (some (o7 l0_0 l0_1 l0_2 l0_3 l0_4 false)) else ((R6.f k r16.1 r16.2.1 r16.2.2.1 r16.2.2.2.1 r16.2.2.2.2.1 r16.2.2.2.2.2.1 r14.1 r14.2.1 r14.2.2.1 r14.2.2.2.1 r14.2.2.2.2.1 r14.2.2.2.2.2.1).bind fun r21=>(if r21=true then (if r16.2.2.2.2.2.2.1=r14.2.2.2.2.2.2.1 then (if r16.2.2.2.2.2.2.2=r14.2.2.2.2.2.2.2 then ((S6.f k r16.1 r16.2.1 r16.2.2.1 r16.2.2.2.1 r16.2.2.2.2.1 r16.2.2.2.2.2.1 1).bind fun r22=>((S7.f k r22.2.1 r22.2.2.1 r22.2.2.2.1 r22.2.2.2.2.1 r22.2.2.2.2.2 r16.2.2.2.2.2.1 1).bind fun r23=>(if r23<0 then (some (o7 l0_0 l0_1 l0_2 l0_3 l0_4 false)) else (if r23=r22.1 then ((R5.f k l0_0 l0_1 l0_2 l0_3 l0_4 a0_5).bind fun r24=>((T8.f k r24.1 r24.2.1 r24.2.2.1 r24.2.2.2.1 r24.2.2.2.2.1 r24.2.2.2.2.2 a1 a2 a3 a4 a5).bind fun r25=>((R6.f k r25.1 r25.2.1 r25.2.2.1 r25.2.2.2.1 r25.2.2.2.2.1 r25.2.2.2.2.2.1 r14.1 r14.2.1 r14.2.2.1 r14.2.2.2.1 r14.2.2.2.2.1 r14.2.2.2.2.2.1).bind fun r26=>(if r26=true then (if r25.2.2.2.2.2.2.1=r14.2.2.2.2.2.2.1 then (if r25.2.2.2.2.2.2.2=r14.2.2.2.2.2.2.2 then ((S7.f k r22.2.1 r22.2.2.1 r22.2.2.2.1 r22.2.2.2.2.1 r22.2.2.2.2.2 r16.2.2.2.2.2.1 1).bind fun r27=>(if r27<0 then (some (o7 l0_0 l0_1 l0_2 l0_3 l0_4 false)) else (if r27=r22.1 then (some (o7 l0_0 l0_1 l0_2 l0_3 l0_4 true)) else (some (o7 l0_0 l0_1 l0_2 l0_3 l0_4 false))))) else (some (o7 l0_0 l0_1 l0_2 l0_3 l0_4 false))) else (some (o7 l0_0 l0_1 l0_2 l0_3 l0_4 false))) else (some (o7 l0_0 l0_1 l0_2 l0_3 l0_4 false)))))) else (some (o7 l0_0 l0_1 l0_2 l0_3 l0_4 false)))))) else (some (o7 l0_0 l0_1 l0_2 l0_3 l0_4 false))) else (some (o7 l0_0 l0_1 l0_2 l0_3 l0_4 false))) else (some (o7 l0_0 l0_1 l0_2 l0_3 l0_4 false)))))) else (some (o7 l0_0 l0_1 l0_2 l0_3 l0_4 false))))) else (some (o7 l0_0 l0_1 l0_2 l0_3 l0_4 false))) else (some (o7 l0_0 l0_1 l0_2 l0_3 l0_4 false))) else (some (o7 l0_0 l0_1 l0_2 l0_3 l0_4 false))))))))))) (by kernel_rfl) (by unfold R4.f;exact lo_))
 · cases e
end
end Go.Proofs.YtmfgajbkcnlkcaaGreat.AI
namespace Go.Proofs.YtmfgajbkcnlkcaaGreat.AI
open Go Go.RowKit Go.Proofs.YtmfgajbkcnlkcaaGreatW.PrintWords Go.Proofs.YtmfgajbkcnlkcaaGreat.P
set_option linter.unusedVariables false
set_option linter.all false
set_option maxRecDepth 100000
set_option maxHeartbeats 4000000
noncomputable section
theorem root7_ok (k:Nat) (A0_0:Option Addr) (c0_0:Nat) (l0_0:List (S103)) (A0_1:Option Addr) (c0_1:Nat) (l0_1:List (S105)) (A0_2:Option Addr) (c0_2:Nat) (l0_2:List (S108)) (A0_3:Option Addr) (c0_3:Nat) (l0_3:List (S112)) (A0_4:Option Addr) (c0_4:Nat) (l0_4:List (S114)) (a0_5:Int) (a1:Int) (a2:Int) (a3:Int) (a4:Int) (a5:Int) (r:Bool) (w:World) (hr0_0:Kd.C k103 w A0_0 l0_0.length l0_0) (hc0_0:l0_0.length≤c0_0) (hr0_1:Kd.C k105 w A0_1 l0_1.length l0_1) (hc0_1:l0_1.length≤c0_1) (hr0_2:Kd.C k108 w A0_2 l0_2.length l0_2) (hc0_2:l0_2.length≤c0_2) (hr0_3:Kd.C k112 w A0_3 l0_3.length l0_3) (hc0_3:l0_3.length≤c0_3) (hr0_4:Kd.C k114 w A0_4 l0_4.length l0_4) (hc0_4:l0_4.length≤c0_4) (h:R4.f k l0_0 l0_1 l0_2 l0_3 l0_4 a0_5 a1 a2 a3 a4 a5=some r) :
 Calls Tryz.prog 7 #[.agg #[.slice A0_0 l0_0.length c0_0,.slice A0_1 l0_1.length c0_1,.slice A0_2 l0_2.length c0_2,.slice A0_3 l0_3.length c0_3,.slice A0_4 l0_4.length c0_4,.int .i64 a0_5],.int .i64 a1,.int .i64 a2,.int .i64 a3,.int .i64 a4,.int .i64 a5] w fun e w'=>e = .returned (.bool r)∧Below w.heap.size w w':=by
 let G:Nat→Value:=fun i=>match i with
  | 0=>.slice A0_0 l0_0.length c0_0
  | 1=>.slice A0_1 l0_1.length c0_1
  | 2=>.slice A0_2 l0_2.length c0_2
  | 3=>.slice A0_3 l0_3.length c0_3
  | 4=>.slice A0_4 l0_4.length c0_4
  | _=>undef
 have hA:A0h (R:=Rw) Tryz.prog w G [.w (.ag [.rw 0,.rw 1,.rw 2,.rw 3,.rw 4,.sc (.i .i64 a0_5)]),.w (.c (.sc (.i .i64 a1))),.w (.c (.sc (.i .i64 a2))),.w (.c (.sc (.i .i64 a3))),.w (.c (.sc (.i .i64 a4))),.w (.c (.sc (.i .i64 a5)))] [.rows 0 (.e103 l0_0),.rows 0 (.e105 l0_1),.rows 0 (.e108 l0_2),.rows 0 (.e112 l0_3),.rows 0 (.e114 l0_4)]:=A2c (by simp [isRo]) (by simp [idsV,idsW,idsC,EpOK]) fun i b hb=>by
  match i,hb with
  | 0,hb=>obtain rfl:=Option.some.inj hb;exact D2q.2 ⟨_,_,rfl,hc0_0,hr0_0⟩
  | 1,hb=>obtain rfl:=Option.some.inj hb;exact D2p.2 ⟨_,_,rfl,hc0_1,hr0_1⟩
  | 2,hb=>obtain rfl:=Option.some.inj hb;exact D2o.2 ⟨_,_,rfl,hc0_2,hr0_2⟩
  | 3,hb=>obtain rfl:=Option.some.inj hb;exact D2n.2 ⟨_,_,rfl,hc0_3,hr0_3⟩
  | 4,hb=>obtain rfl:=Option.some.inj hb;exact D2m.2 ⟨_,_,rfl,hc0_4,hr0_4⟩
  | _+5,hb=>simp at hb
 have hq:=A0m (out:=o7 l0_0 l0_1 l0_2 l0_3 l0_4 r) (by simp [isRo]) (by simp [o7,idsW,idsC]) (A1x d7 (k:=k) (by show (R4.f k l0_0 l0_1 l0_2 l0_3 l0_4 a0_5 a1 a2 a3 a4 a5).bind _=_;rw [h];rfl)) hA
 have hv:(List.map (H7 G) [.w (.ag [.rw 0,.rw 1,.rw 2,.rw 3,.rw 4,.sc (.i .i64 a0_5)]),.w (.c (.sc (.i .i64 a1))),.w (.c (.sc (.i .i64 a2))),.w (.c (.sc (.i .i64 a3))),.w (.c (.sc (.i .i64 a4))),.w (.c (.sc (.i .i64 a5)))]).toArray=#[.agg #[.slice A0_0 l0_0.length c0_0,.slice A0_1 l0_1.length c0_1,.slice A0_2 l0_2.length c0_2,.slice A0_3 l0_3.length c0_3,.slice A0_4 l0_4.length c0_4,.int .i64 a0_5],.int .i64 a1,.int .i64 a2,.int .i64 a3,.int .i64 a4,.int .i64 a5]:=by simp [H7,O4,conc,Sc.v,G]
 rw [hv] at hq
 exact hq
end
end Go.Proofs.YtmfgajbkcnlkcaaGreat.AI
namespace Go.Proofs.YtmfgajbkcnlkcaaGreat.EV
open Go Go.RowKit Go.Proofs.YtmfgajbkcnlkcaaGreatW.PrintWords
theorem S8 (n:Int) (h0 : -9223372036854775808≤n) (h1:n≤9223372036854775807):wrap64 n=n:=by unfold wrap64;omega
theorem J5 {i n:Nat} (h:i<n) (hn:n≤9223372036854775807):wrap64 ((i:Int)+1)=((i+1:Nat):Int):=by unfold wrap64;omega
theorem A2f {i n:Nat} (h:i<n) (hp:0<i) (hn:n≤9223372036854775807):wrap64 ((i:Int)-1)=((i-1:Nat):Int):=by unfold wrap64;omega
theorem I2 {α:Type} {g:Nat→Option α} {r:α} (h:∀ k,g (k+1)=some r):Ev g r:=⟨1,fun k hk=>by
 obtain ⟨k,rfl⟩:∃ m,k=m+1:=⟨k-1,by omega⟩
 exact h k⟩
theorem F3 {α:Type} {g:Nat→Option α} {r:α} (h:∀ k,g k=some r):Ev g r:=⟨0,fun k _=>h k⟩
theorem B8 {α β:Type} {g:Nat→Option α} {f:Nat→α→Option β} {a:α} {r:β} (h:Ev g a) (k:Ev (fun n=>f n a) r):Ev (fun n=>(g n).bind (f n)) r:=Ev.bind h k
theorem A0k (l:Nat→Int→Option Bool) (n:Nat) (G:Nat→Prop) (fin:Bool) (h0:Ev (fun k=>l k (n:Int)) fin)
 (hs:∀ i:Nat,i<n→(G i∧∀ k,l (k+1) (i:Int)=l k ((i+1:Nat):Int))∨(¬ G i∧∀ k,l (k+1) (i:Int)=some false)) :
 ∀ (d i:Nat),n-i=d→i≤n→∃ r,Ev (fun k=>l k (i:Int)) r∧(r=true↔(∀ j,i≤j→j<n→G j)∧fin=true):=by
 intro d
 induction d with
 | zero=>
   intro i hd hi
   obtain rfl:i=n:=by omega
   exact ⟨fin,h0,⟨fun h=>⟨fun j h1 h2=>by omega,h⟩,fun h=>h.2⟩⟩
 | succ d ih=>
   intro i hd hi
   rcases hs i (by omega) with ⟨hg,he⟩ | ⟨hg,he⟩
   · obtain ⟨r,hr,hiff⟩:=ih (i+1) (by omega) (by omega)
     refine ⟨r,Ev.step he hr,?_⟩
     rw [hiff]
     constructor
     · rintro ⟨h1,h2⟩
       refine ⟨fun j h3 h4=>?_,h2⟩
       rcases Nat.eq_or_lt_of_le h3 with h5 | h5
       · exact h5▸hg
       · exact h1 j h5 h4
     · rintro ⟨h1,h2⟩
       exact ⟨fun j h3 h4=>h1 j (by omega) h4,h2⟩
   · refine ⟨false,I2 he,⟨fun h=>Bool.noConfusion h,fun h=>absurd (h.1 i (Nat.le_refl _) (by omega)) hg⟩⟩
theorem S1 {σ ρ:Type} (l:Nat→σ→Int→Option ρ) (n:Nat) (F:Nat→σ→ρ) (Inv:Nat→σ→Prop)
 (h0:∀ s,Inv n s→Ev (fun k=>l k s (n:Int)) (F n s))
 (hs:∀ (i:Nat) s,i<n→Inv i s→(Ev (fun k=>l k s (i:Int)) (F i s))∨∃ s',Inv (i+1) s'∧F (i+1) s'=F i s∧∀ k,l (k+1) s (i:Int)=l k s' ((i+1:Nat):Int)) :
 ∀ (d i:Nat) s,n-i=d→i≤n→Inv i s→Ev (fun k=>l k s (i:Int)) (F i s):=by
 intro d
 induction d with
 | zero=>
   intro i s hd hi hinv
   obtain rfl:i=n:=by omega
   exact h0 s hinv
 | succ d ih=>
   intro i s hd hi hinv
   rcases hs i s (by omega) hinv with h | ⟨s',h1,h2,h3⟩
   · exact h
   · exact h2▸Ev.step h3 (ih (i+1) s' (by omega) (by omega) h1)
theorem X8 {σ ρ:Type} (l:Nat→σ→Int→Option ρ) (n:Nat) (F:Nat→σ→ρ) (Inv:Nat→σ→Prop)
 (h0:∀ s,Inv n s→Ev (fun k=>l k s (n:Int)) (F n s))
 (hs:∀ (i:Nat) s,i<n→Inv i s→(Ev (fun k=>l k s (i:Int)) (F i s))∨∃ s',Inv (i+1) s'∧F (i+1) s'=F i s∧∀ r,Ev (fun k=>l k s' ((i+1:Nat):Int)) r→Ev (fun k=>l k s (i:Int)) r) :
 ∀ (d i:Nat) s,n-i=d→i≤n→Inv i s→Ev (fun k=>l k s (i:Int)) (F i s):=by
 intro d
 induction d with
 | zero=>
   intro i s hd hi hinv
   obtain rfl:i=n:=by omega
   exact h0 s hinv
 | succ d ih=>
   intro i s hd hi hinv
   rcases hs i s (by omega) hinv with h | ⟨s',h1,h2,h3⟩
   · exact h
   · exact h2▸h3 _ (ih (i+1) s' (by omega) (by omega) h1)
theorem Y5 (l:Nat→Int→Option Bool) (n:Nat) (G:Nat→Prop) (fin:Bool) (h0:Ev (fun k=>l k (n:Int)) fin)
 (hs:∀ i:Nat,i<n→(G i∧∀ r,Ev (fun k=>l k ((i+1:Nat):Int)) r→Ev (fun k=>l k (i:Int)) r)∨(¬ G i∧Ev (fun k=>l k (i:Int)) false)) :
 ∀ (d i:Nat),n-i=d→i≤n→∃ r,Ev (fun k=>l k (i:Int)) r∧(r=true↔(∀ j,i≤j→j<n→G j)∧fin=true):=by
 intro d
 induction d with
 | zero=>
   intro i hd hi
   obtain rfl:i=n:=by omega
   exact ⟨fin,h0,⟨fun h=>⟨fun j h1 h2=>by omega,h⟩,fun h=>h.2⟩⟩
 | succ d ih=>
   intro i hd hi
   rcases hs i (by omega) with ⟨hg,he⟩ | ⟨hg,he⟩
   · obtain ⟨r,hr,hiff⟩:=ih (i+1) (by omega) (by omega)
     refine ⟨r,he r hr,?_⟩
     rw [hiff]
     constructor
     · rintro ⟨h1,h2⟩
       refine ⟨fun j h3 h4=>?_,h2⟩
       rcases Nat.eq_or_lt_of_le h3 with h5 | h5
       · exact h5▸hg
       · exact h1 j h5 h4
     · rintro ⟨h1,h2⟩
       exact ⟨fun j h3 h4=>h1 j (by omega) h4,h2⟩
   · exact ⟨false,he,⟨fun h=>Bool.noConfusion h,fun h=>absurd (h.1 i (Nat.le_refl _) (by omega)) hg⟩⟩
theorem L9 {α:Type} (z:α) (l:List α) (i:Nat) (h:i<l.length):l.drop i=l.getD i z::l.drop (i+1):=by
 rw [List.drop_eq_getElem_cons h,List.getD_eq_getElem?_getD,List.getElem?_eq_getElem h]
 rfl
theorem A2w {α:Type} (l:List α) (i j:Nat) (x z:α):(l.set i x).getD j z=if i=j∧j<l.length then x else l.getD j z:=by
 rw [List.getD_eq_getElem?_getD,List.getElem?_set,List.getD_eq_getElem?_getD]
 by_cases h:i=j
 · subst h
   by_cases h2:i<l.length
   · simp [h2]
   · simp [h2]
 · simp [h]
theorem A4d {α:Type} (z:α) {a b:List α} (hl:a.length=b.length) (h:∀ i,i<a.length→a.getD i z=b.getD i z):a=b:=by
 apply List.ext_getElem hl
 intro i h1 h2
 have:=h i h1
 rw [List.getD_eq_getElem?_getD,List.getD_eq_getElem?_getD,List.getElem?_eq_getElem h1,List.getElem?_eq_getElem h2] at this
 simpa using this
end Go.Proofs.YtmfgajbkcnlkcaaGreat.EV
namespace Go.Proofs.YtmfgajbkcnlkcaaGreat.I1
open Go Go.RowKit Go.Proofs.YtmfgajbkcnlkcaaGreat.P Go.Proofs.YtmfgajbkcnlkcaaGreatW.PrintWords Go.Proofs.YtmfgajbkcnlkcaaGreatW.PrintLast
theorem in_i (a lo hi:Int):J7.f a lo hi=some (decide (lo≤a∧a≤hi)):=by
 unfold J7.f
 by_cases h:a≥lo
 · rw [if_pos h]
   congr 1
   rw [Bool.eq_iff_iff,decide_eq_true_iff,decide_eq_true_iff]
   omega
 · rw [if_neg h]
   congr 1
   symm
   rw [decide_eq_false_iff_not]
   omega
theorem in_s (a lo hi:Int):N9.f a lo hi=some (decide (lo≤a∧a≤hi)):=by
 unfold N9.f
 by_cases h:a≥lo
 · rw [if_pos h]
   congr 1
   rw [Bool.eq_iff_iff,decide_eq_true_iff,decide_eq_true_iff]
   omega
 · rw [if_neg h]
   congr 1
   symm
   rw [decide_eq_false_iff_not]
   omega
end Go.Proofs.YtmfgajbkcnlkcaaGreat.I1
namespace Go.Proofs.YtmfgajbkcnlkcaaGreat.F1
open Go Go.RowKit Go.Proofs.YtmfgajbkcnlkcaaGreat.P Go.Proofs.YtmfgajbkcnlkcaaGreatW.PrintWords Go.Proofs.YtmfgajbkcnlkcaaGreatW.PrintLast Go.Proofs.YtmfgajbkcnlkcaaGreat.EV Go.Proofs.YtmfgajbkcnlkcaaGreat.I1
abbrev ST:=S60
def No (a:Int):Prop:=1≤a∧a≤1000
instance (a:Int):Decidable (No a):=by unfold No;exact inferInstance
theorem no_s (a:Int):I3.f a=some (decide (No a)):=by unfold I3.f;rw [in_s];rfl
theorem no_i (a:Int):I5.f a=some (decide (No a)):=by unfold I5.f;rw [in_i];rfl
theorem rdT (l:List ST) (i:Nat):B7 l (i:Int)=l.getD i z60:=by unfold B7;rw [Int.toNat_natCast]
def Amt1 (lo x:Int):Prop:=lo≤x∧x≤1000000000000000
def Sta (x:Int):Prop:=1≤x∧x≤3
instance (a lo:Int):Decidable (Amt1 lo a):=by unfold Amt1;exact inferInstance
instance (a:Int):Decidable (Sta a):=by unfold Sta;exact inferInstance
def Good (l:List ST) (i:Nat):Prop:=
 No (l.getD i z60).f0∧No (l.getD i z60).f1∧No (l.getD i z60).f2∧No (l.getD i z60).f3∧No (l.getD i z60).f5∧(l.getD i z60).f1≠(l.getD i z60).f2 ∧
  Amt1 1 (l.getD i z60).f4∧Amt1 0 (l.getD i z60).f6∧Sta (l.getD i z60).f7∧(0<i→(l.getD (i-1) z60).f0<(l.getD i z60).f0)
theorem some_s (a lo:Int):J9.f a lo=some (decide (lo≤a∧a≤1000000000000000)):=by
 unfold J9.f
 first | (rw [in_s];rfl) | (rw [in_s])
theorem D2e (a lo:Int):J7.f a lo 1000000000000000=some (decide (Amt1 lo a)):=by rw [in_i];rfl
theorem C8p (a:Int):J7.f a 1 3=some (decide (Sta a)):=by rw [in_i];rfl
theorem A8e (l:List ST) (hl:l.length≤9223372036854775807):∃ r,Ev (fun k=>J2.f k l) r∧(r=true↔l.length≤30∧∀ i,i<l.length→Good l i):=by
 unfold J2.f
 by_cases hn:(l.length:Int)>30
 · exact ⟨false,F3 fun k=>if_pos hn,⟨fun h=>Bool.noConfusion h,fun h=>absurd h.1 (by omega)⟩⟩
 · obtain ⟨r,hr,hiff⟩:=
    A0k (fun k i=>J2.l0 k l i) l.length (Good l) true
    (I2 fun k=>by simp only [J2.l0];rw [if_neg (by omega)])
    (fun i hi=>by
      obtain ⟨x,hx⟩:∃ x,l.getD i z60=x:=⟨_,rfl⟩
      have e:∀ k,J2.l0 (k+1) l (i:Int)=if No x.f0 then (if No x.f1 then (if No x.f2 then (if No x.f3 then (if No x.f5 then (if x.f1=x.f2 then some false else (if Amt1 1 x.f4 then (if Amt1 0 x.f6 then (if Sta x.f7 then (if (i:Int)>0 then (if 0≤wrap64 ((i:Int)-1) then (if wrap64 ((i:Int)-1)<(l.length:Int) then (if (B7 l (wrap64 ((i:Int)-1))).f0≥x.f0 then some false else J2.l0 k l ((i+1:Nat):Int)) else none) else none) else J2.l0 k l ((i+1:Nat):Int)) else some false) else some false) else some false)) else some false) else some false) else some false) else some false) else some false:=fun k=>by
       simp only [J2.l0]
       rw [if_pos (by omega),if_pos (by omega),J5 hi (by omega)]
       simp only [rdT,hx,no_s,some_s,in_s,Option.bind_some,decide_eq_true_iff]
       rfl
      unfold Good
      rw [hx]
      by_cases h0:No x.f0
      · by_cases h1:No x.f1
        · by_cases h2:No x.f2
          · by_cases h3:No x.f3
            · by_cases h5:No x.f5
              · by_cases hne:x.f1=x.f2
                · exact .inr ⟨fun g=>g.2.2.2.2.2.1 hne,fun k=>by rw [e,if_pos h0,if_pos h1,if_pos h2,if_pos h3,if_pos h5,if_pos hne]⟩
                · by_cases h4:Amt1 1 x.f4
                  · by_cases h6:Amt1 0 x.f6
                    · by_cases h7:Sta x.f7
                      · by_cases hi0:0<i
                        · by_cases hlt:(l.getD (i-1) z60).f0<x.f0
                          · refine .inl ⟨⟨h0,h1,h2,h3,h5,hne,h4,h6,h7,fun _=>hlt⟩,fun k=>?_⟩
                            show J2.l0 (k+1) l (i:Int)=_
                            rw [e,if_pos h0,if_pos h1,if_pos h2,if_pos h3,if_pos h5,if_neg hne,if_pos h4,if_pos h6,if_pos h7,if_pos (by omega),A2f hi hi0 (by omega),if_pos (by omega),if_pos (by omega),rdT,if_neg (by omega)]
                          · refine .inr ⟨fun g=>hlt (g.2.2.2.2.2.2.2.2.2 hi0),fun k=>?_⟩
                            rw [e,if_pos h0,if_pos h1,if_pos h2,if_pos h3,if_pos h5,if_neg hne,if_pos h4,if_pos h6,if_pos h7,if_pos (by omega),A2f hi hi0 (by omega),if_pos (by omega),if_pos (by omega),rdT,if_pos (by omega)]
                        · refine .inl ⟨⟨h0,h1,h2,h3,h5,hne,h4,h6,h7,fun g=>absurd g hi0⟩,fun k=>?_⟩
                          show J2.l0 (k+1) l (i:Int)=_
                          rw [e,if_pos h0,if_pos h1,if_pos h2,if_pos h3,if_pos h5,if_neg hne,if_pos h4,if_pos h6,if_pos h7,if_neg (by omega)]
                      · exact .inr ⟨fun g=>h7 g.2.2.2.2.2.2.2.2.1,fun k=>by rw [e,if_pos h0,if_pos h1,if_pos h2,if_pos h3,if_pos h5,if_neg hne,if_pos h4,if_pos h6,if_neg h7]⟩
                    · exact .inr ⟨fun g=>h6 g.2.2.2.2.2.2.2.1,fun k=>by rw [e,if_pos h0,if_pos h1,if_pos h2,if_pos h3,if_pos h5,if_neg hne,if_pos h4,if_neg h6]⟩
                  · exact .inr ⟨fun g=>h4 g.2.2.2.2.2.2.1,fun k=>by rw [e,if_pos h0,if_pos h1,if_pos h2,if_pos h3,if_pos h5,if_neg hne,if_neg h4]⟩
              · exact .inr ⟨fun g=>h5 g.2.2.2.2.1,fun k=>by rw [e,if_pos h0,if_pos h1,if_pos h2,if_pos h3,if_neg h5]⟩
            · exact .inr ⟨fun g=>h3 g.2.2.2.1,fun k=>by rw [e,if_pos h0,if_pos h1,if_pos h2,if_neg h3]⟩
          · exact .inr ⟨fun g=>h2 g.2.2.1,fun k=>by rw [e,if_pos h0,if_pos h1,if_neg h2]⟩
        · exact .inr ⟨fun g=>h1 g.2.1,fun k=>by rw [e,if_pos h0,if_neg h1]⟩
      · exact .inr ⟨fun g=>h0 g.1,fun k=>by rw [e,if_neg h0]⟩) l.length 0 (by omega) (by omega)
   refine ⟨r,Ev.congr (fun k=>if_neg hn) hr,?_⟩
   rw [hiff]
   exact ⟨fun h=>⟨by omega,fun i hi=>h.1 i (Nat.zero_le _) hi⟩,fun h=>⟨fun i _ hi=>h.2 i hi,rfl⟩⟩
theorem A8f (l:List ST) (hl:l.length≤9223372036854775807):∃ r,Ev (fun k=>D8.f k l) r∧(r=true↔l.length≤30∧∀ i,i<l.length→Good l i):=by
 unfold D8.f
 obtain ⟨r,hr,hiff⟩:=Y5 (fun k i=>D8.l0 k l l (l.length:Int) i) l.length (Good l) (decide ((l.length:Int)≤30))
  (I2 fun k=>by simp only [D8.l0];rw [if_neg (by omega)])
  (fun i hi=>by
    obtain ⟨x,hx⟩:∃ x,l.getD i z60=x:=⟨_,rfl⟩
    have e:∀ k,D8.l0 (k+1) l l (l.length:Int) (i:Int)=D8.j1 k l (i:Int) l (l.length:Int) (i:Int) (!decide (No x.f0∧No x.f1∧No x.f2∧No x.f3∧No x.f5∧x.f1≠x.f2)) x.f0 x.f1 x.f2 x.f3 x.f4 x.f5 x.f6 x.f7:=fun k=>by
     simp only [D8.l0]
     rw [if_pos (by omega),if_pos (by omega),if_pos (by omega)]
     simp only [rdT,hx,no_i,Option.bind_some,decide_eq_true_iff]
     by_cases h0:No x.f0
     · by_cases h1:No x.f1
       · by_cases h2:No x.f2
         · by_cases h3:No x.f3
           · by_cases h5:No x.f5
             · by_cases hne:x.f1=x.f2
               · rw [if_pos h0,if_pos h1,if_pos h2,if_pos h3,if_pos h5,decide_eq_false (fun g:No x.f0∧No x.f1∧No x.f2∧No x.f3∧No x.f5∧x.f1≠x.f2=>g.2.2.2.2.2 hne),beq_iff_eq.2 hne]
                 rfl
               · rw [if_pos h0,if_pos h1,if_pos h2,if_pos h3,if_pos h5,decide_eq_true (show No x.f0∧No x.f1∧No x.f2∧No x.f3∧No x.f5∧x.f1≠x.f2 from ⟨h0,h1,h2,h3,h5,hne⟩),beq_eq_false_iff_ne.2 hne]
                 rfl
             · rw [if_pos h0,if_pos h1,if_pos h2,if_pos h3,if_neg h5,decide_eq_false (fun g:No x.f0∧No x.f1∧No x.f2∧No x.f3∧No x.f5∧x.f1≠x.f2=>h5 g.2.2.2.2.1)]
               rfl
           · rw [if_pos h0,if_pos h1,if_pos h2,if_neg h3,decide_eq_false (fun g:No x.f0∧No x.f1∧No x.f2∧No x.f3∧No x.f5∧x.f1≠x.f2=>h3 g.2.2.2.1)]
             rfl
         · rw [if_pos h0,if_pos h1,if_neg h2,decide_eq_false (fun g:No x.f0∧No x.f1∧No x.f2∧No x.f3∧No x.f5∧x.f1≠x.f2=>h2 g.2.2.1)]
           rfl
       · rw [if_pos h0,if_neg h1,decide_eq_false (fun g:No x.f0∧No x.f1∧No x.f2∧No x.f3∧No x.f5∧x.f1≠x.f2=>h1 g.2.1)]
         rfl
     · rw [if_neg h0,decide_eq_false (fun g:No x.f0∧No x.f1∧No x.f2∧No x.f3∧No x.f5∧x.f1≠x.f2=>h0 g.1)]
       rfl
    have e1:∀ k,D8.j1 (k+1) l (i:Int) l (l.length:Int) (i:Int) false x.f0 x.f1 x.f2 x.f3 x.f4 x.f5 x.f6 x.f7=if Amt1 1 x.f4 then (if Amt1 0 x.f6 then (if Sta x.f7 then (if (i:Int)>0 then (if 0≤wrap64 ((i:Int)-1) then (if wrap64 ((i:Int)-1)<(l.length:Int) then (if (B7 l (wrap64 ((i:Int)-1))).f0≥x.f0 then some false else D8.l0 k l l (l.length:Int) ((i+1:Nat):Int)) else none) else none) else D8.l0 k l l (l.length:Int) ((i+1:Nat):Int)) else some false) else some false) else some false:=fun k=>by
     simp only [D8.j1]
     rw [if_neg (by decide),J5 hi (by omega)]
     simp only [D2e,C8p,Option.bind_some,decide_eq_true_iff]
    unfold Good
    rw [hx]
    by_cases hA:No x.f0∧No x.f1∧No x.f2∧No x.f3∧No x.f5∧x.f1≠x.f2
    · rw [decide_eq_true hA] at e
      have stop:(∀ k,D8.j1 (k+1) l (i:Int) l (l.length:Int) (i:Int) false x.f0 x.f1 x.f2 x.f3 x.f4 x.f5 x.f6 x.f7=some false)→Ev (fun k=>D8.l0 k l l (l.length:Int) (i:Int)) false:=fun h=>Ev.step e (I2 h)
      have go:(∀ k,D8.j1 (k+1) l (i:Int) l (l.length:Int) (i:Int) false x.f0 x.f1 x.f2 x.f3 x.f4 x.f5 x.f6 x.f7=D8.l0 k l l (l.length:Int) ((i+1:Nat):Int))→∀ r,Ev (fun k=>D8.l0 k l l (l.length:Int) ((i+1:Nat):Int)) r→Ev (fun k=>D8.l0 k l l (l.length:Int) (i:Int)) r:=fun h r hr=>Ev.step e (Ev.step h hr)
      obtain ⟨h0,h1,h2,h3,h5,hne⟩:=hA
      by_cases h4:Amt1 1 x.f4
      · by_cases h6:Amt1 0 x.f6
        · by_cases h7:Sta x.f7
          · by_cases hi0:0<i
            · by_cases hlt:(l.getD (i-1) z60).f0<x.f0
              · exact .inl ⟨⟨h0,h1,h2,h3,h5,hne,h4,h6,h7,fun _=>hlt⟩,go fun k=>by rw [e1,if_pos h4,if_pos h6,if_pos h7,if_pos (by omega),A2f hi hi0 (by omega),if_pos (by omega),if_pos (by omega),rdT,if_neg (by omega)]⟩
              · exact .inr ⟨fun g=>hlt (g.2.2.2.2.2.2.2.2.2 hi0),stop fun k=>by rw [e1,if_pos h4,if_pos h6,if_pos h7,if_pos (by omega),A2f hi hi0 (by omega),if_pos (by omega),if_pos (by omega),rdT,if_pos (by omega)]⟩
            · exact .inl ⟨⟨h0,h1,h2,h3,h5,hne,h4,h6,h7,fun g=>absurd g hi0⟩,go fun k=>by rw [e1,if_pos h4,if_pos h6,if_pos h7,if_neg (by omega)]⟩
          · exact .inr ⟨fun g=>h7 g.2.2.2.2.2.2.2.2.1,stop fun k=>by rw [e1,if_pos h4,if_pos h6,if_neg h7]⟩
        · exact .inr ⟨fun g=>h6 g.2.2.2.2.2.2.2.1,stop fun k=>by rw [e1,if_pos h4,if_neg h6]⟩
      · exact .inr ⟨fun g=>h4 g.2.2.2.2.2.2.1,stop fun k=>by rw [e1,if_neg h4]⟩
    · rw [decide_eq_false hA] at e
      exact .inr ⟨fun g=>hA ⟨g.1,g.2.1,g.2.2.1,g.2.2.2.1,g.2.2.2.2.1,g.2.2.2.2.2.1⟩,Ev.step e (I2 fun k=>by
       show D8.j1 (k+1) l (i:Int) l (l.length:Int) (i:Int) true x.f0 x.f1 x.f2 x.f3 x.f4 x.f5 x.f6 x.f7=_
       simp only [D8.j1]
       rw [if_pos trivial])⟩) l.length 0 (by omega) (by omega)
 refine ⟨r,hr,?_⟩
 rw [hiff,decide_eq_true_iff]
 exact ⟨fun h=>⟨by omega,fun i hi=>h.1 i (Nat.zero_le _) hi⟩,fun h=>⟨fun i _ hi=>h.2 i hi,by omega⟩⟩
theorem trades_both (l:List ST) (hl:l.length≤9223372036854775807):∃ r,Ev (fun k=>J2.f k l) r∧Ev (fun k=>D8.f k l) r:=by
 obtain ⟨r,hr,h1⟩:=A8e l hl
 obtain ⟨s,hs,h2⟩:=A8f l hl
 have e:r=s:=by rw [Bool.eq_iff_iff,h1,h2]
 exact ⟨r,hr,by rw [e];exact hs⟩
end Go.Proofs.YtmfgajbkcnlkcaaGreat.F1
namespace Go.Proofs.YtmfgajbkcnlkcaaGreat.T1
open Go Go.RowKit Go.Proofs.YtmfgajbkcnlkcaaGreat.P Go.Proofs.YtmfgajbkcnlkcaaGreatW.PrintWords Go.Proofs.YtmfgajbkcnlkcaaGreatW.PrintLast Go.Proofs.YtmfgajbkcnlkcaaGreat.EV
def A0f (x:S103):S80:=⟨x.f0,x.f1⟩
theorem B6c  (l:List S103) (left:Int) (h0:0≤left) (h1:left≤1048576) (hm:l.length≤9223372036854775807):U2.f l left=some (if left<(l.length:Int) then -1 else left-l.length):=by
 unfold U2.f
 rw [S8 _ (by omega) (by omega)]
 by_cases h:left<(l.length:Int)
 · rw [if_pos h,if_pos (by omega)]
 · rw [if_neg h,if_neg (by omega)]
theorem B3t (l:List S103) (i:Nat):A4l l (i:Int)=l.getD i z103:=by unfold A4l;rw [Int.toNat_natCast]
theorem B6b  (l:List S103) (hl:l.length≤1048576):Ev (fun k=>K3.f k l) (l.map A0f):=by
 unfold K3.f
 have h:=S1 (fun k s i=>K3.l0 k l s i) l.length (fun i s=>s.take i++(l.drop i).map A0f) (fun i s=>s.length=l.length)
  (fun s hs=>I2 fun k=>by
    simp only [K3.l0]
    rw [if_neg (by omega),List.drop_length,List.map_nil,List.append_nil,← hs,List.take_length])
  (fun i s hi hs=>.inr ⟨s.set i (A0f (l.getD i z103)),by rw [List.length_set];exact hs,by
    rw [List.take_add_one,List.take_set_of_le (Nat.le_refl i),List.getElem?_set_self (by omega),List.drop_eq_getElem_cons hi,List.map_cons]
    have:l.getD i z103=l[i]:=by rw [List.getD_eq_getElem?_getD,List.getElem?_eq_getElem hi];rfl
    rw [this]
    simp,fun k=>by
    show K3.l0 (k+1) l s (i:Int)=_
    simp only [K3.l0]
    rw [if_pos (by omega),if_pos (by omega),J5 hi (by omega)]
    simp only [X5.f,Option.bind_some,B3t]
    rw [if_pos (by omega)]
    simp only [Int.toNat_natCast]
    rfl⟩) l.length 0 (List.replicate l.length z80) (by omega) (by omega) (by simp)
 refine Ev.congr (fun k=>?_) h
 rw [if_pos (by omega),if_pos (by omega)]
 rfl
theorem B4d (x:S80):U9.f x.f0 x.f1 x.f0 x.f1=some true:=by unfold U9.f;simp
theorem B6s (l:List S80) (hl:l.length≤9223372036854775807):Ev (fun k=>L0.f k l l) true:=by
 unfold L0.f
 obtain ⟨r,hr,hiff⟩:=A0k (fun k i=>L0.l0 k l l i) l.length (fun _=>True) true
  (I2 fun k=>by simp only [L0.l0];rw [if_neg (by omega)])
  (fun i hi=>.inl ⟨trivial,fun k=>by
    show L0.l0 (k+1) l l (i:Int)=_
    simp only [L0.l0]
    rw [if_pos (by omega),if_pos (by omega),if_pos (by omega),J5 hi (by omega)]
    simp only [B4d,Option.bind_some,if_true]⟩) l.length 0 (by omega) (by omega)
 obtain rfl:r=true:=hiff.2 ⟨fun _ _ _=>trivial,rfl⟩
 refine Ev.congr (fun k=>?_) hr
 rw [if_pos rfl]
 rfl
def A2p (x:S105):S84:=⟨x.f0,x.f1⟩
theorem C3n  (l:List S105) (left:Int) (h0:0≤left) (h1:left≤1048576) (hm:l.length≤9223372036854775807):W0.f l left=some (if left<(l.length:Int) then -1 else left-l.length):=by
 unfold W0.f
 rw [S8 _ (by omega) (by omega)]
 by_cases h:left<(l.length:Int)
 · rw [if_pos h,if_pos (by omega)]
 · rw [if_neg h,if_neg (by omega)]
theorem B7t (l:List S105) (i:Nat):A4k l (i:Int)=l.getD i z105:=by unfold A4k;rw [Int.toNat_natCast]
theorem C3h  (l:List S105) (hl:l.length≤1048576):Ev (fun k=>M8.f k l) (l.map A2p):=by
 unfold M8.f
 have h:=S1 (fun k s i=>M8.l0 k l s i) l.length (fun i s=>s.take i++(l.drop i).map A2p) (fun i s=>s.length=l.length)
  (fun s hs=>I2 fun k=>by
    simp only [M8.l0]
    rw [if_neg (by omega),List.drop_length,List.map_nil,List.append_nil,← hs,List.take_length])
  (fun i s hi hs=>.inr ⟨s.set i (A2p (l.getD i z105)),by rw [List.length_set];exact hs,by
    rw [List.take_add_one,List.take_set_of_le (Nat.le_refl i),List.getElem?_set_self (by omega),List.drop_eq_getElem_cons hi,List.map_cons]
    have:l.getD i z105=l[i]:=by rw [List.getD_eq_getElem?_getD,List.getElem?_eq_getElem hi];rfl
    rw [this]
    simp,fun k=>by
    show M8.l0 (k+1) l s (i:Int)=_
    simp only [M8.l0]
    rw [if_pos (by omega),if_pos (by omega),J5 hi (by omega)]
    simp only [A0d.f,Option.bind_some,B7t]
    rw [if_pos (by omega)]
    simp only [Int.toNat_natCast]
    rfl⟩) l.length 0 (List.replicate l.length z84) (by omega) (by omega) (by simp)
 refine Ev.congr (fun k=>?_) h
 rw [if_pos (by omega),if_pos (by omega)]
 rfl
theorem C0f (x:S84):Y2.f x.f0 x.f1 x.f0 x.f1=some true:=by unfold Y2.f;simp
theorem C4r (l:List S84) (hl:l.length≤9223372036854775807):Ev (fun k=>N5.f k l l) true:=by
 unfold N5.f
 obtain ⟨r,hr,hiff⟩:=A0k (fun k i=>N5.l0 k l l i) l.length (fun _=>True) true
  (I2 fun k=>by simp only [N5.l0];rw [if_neg (by omega)])
  (fun i hi=>.inl ⟨trivial,fun k=>by
    show N5.l0 (k+1) l l (i:Int)=_
    simp only [N5.l0]
    rw [if_pos (by omega),if_pos (by omega),if_pos (by omega),J5 hi (by omega)]
    simp only [C0f,Option.bind_some,if_true]⟩) l.length 0 (by omega) (by omega)
 obtain rfl:r=true:=hiff.2 ⟨fun _ _ _=>trivial,rfl⟩
 refine Ev.congr (fun k=>?_) hr
 rw [if_pos rfl]
 rfl
def B1h (x:S108):S106:=⟨x.f0,x.f1,x.f2⟩
theorem C8n  (l:List S108) (left:Int) (h0:0≤left) (h1:left≤1048576) (hm:l.length≤9223372036854775807):Z0.f l left=some (if left<(l.length:Int) then -1 else left-l.length):=by
 unfold Z0.f
 rw [S8 _ (by omega) (by omega)]
 by_cases h:left<(l.length:Int)
 · rw [if_pos h,if_pos (by omega)]
 · rw [if_neg h,if_neg (by omega)]
theorem C6r (l:List S108) (i:Nat):A2k l (i:Int)=l.getD i z108:=by unfold A2k;rw [Int.toNat_natCast]
theorem C8k  (l:List S108) (hl:l.length≤1048576):Ev (fun k=>P2.f k l) (l.map B1h):=by
 unfold P2.f
 have h:=S1 (fun k s i=>P2.l0 k l s i) l.length (fun i s=>s.take i++(l.drop i).map B1h) (fun i s=>s.length=l.length)
  (fun s hs=>I2 fun k=>by
    simp only [P2.l0]
    rw [if_neg (by omega),List.drop_length,List.map_nil,List.append_nil,← hs,List.take_length])
  (fun i s hi hs=>.inr ⟨s.set i (B1h (l.getD i z108)),by rw [List.length_set];exact hs,by
    rw [List.take_add_one,List.take_set_of_le (Nat.le_refl i),List.getElem?_set_self (by omega),List.drop_eq_getElem_cons hi,List.map_cons]
    have:l.getD i z108=l[i]:=by rw [List.getD_eq_getElem?_getD,List.getElem?_eq_getElem hi];rfl
    rw [this]
    simp,fun k=>by
    show P2.l0 (k+1) l s (i:Int)=_
    simp only [P2.l0]
    rw [if_pos (by omega),if_pos (by omega),J5 hi (by omega)]
    simp only [A1o.f,Option.bind_some,C6r]
    rw [if_pos (by omega)]
    simp only [Int.toNat_natCast]
    rfl⟩) l.length 0 (List.replicate l.length z106) (by omega) (by omega) (by simp)
 refine Ev.congr (fun k=>?_) h
 rw [if_pos (by omega),if_pos (by omega)]
 rfl
theorem C7v (x:S106):A0r.f x.f0 x.f1 x.f2 x.f0 x.f1 x.f2=some true:=by unfold A0r.f;simp
theorem D1t (l:List S106) (hl:l.length≤9223372036854775807):Ev (fun k=>P4.f k l l) true:=by
 unfold P4.f
 obtain ⟨r,hr,hiff⟩:=A0k (fun k i=>P4.l0 k l l i) l.length (fun _=>True) true
  (I2 fun k=>by simp only [P4.l0];rw [if_neg (by omega)])
  (fun i hi=>.inl ⟨trivial,fun k=>by
    show P4.l0 (k+1) l l (i:Int)=_
    simp only [P4.l0]
    rw [if_pos (by omega),if_pos (by omega),if_pos (by omega),J5 hi (by omega)]
    simp only [C7v,Option.bind_some,if_true]⟩) l.length 0 (by omega) (by omega)
 obtain rfl:r=true:=hiff.2 ⟨fun _ _ _=>trivial,rfl⟩
 refine Ev.congr (fun k=>?_) hr
 rw [if_pos rfl]
 rfl
def B1g (x:S112):S110:=⟨x.f0,x.f1,x.f2,x.f3,x.f4⟩
theorem C8m  (l:List S112) (left:Int) (h0:0≤left) (h1:left≤1048576) (hm:l.length≤9223372036854775807):Y9.f l left=some (if left<(l.length:Int) then -1 else left-l.length):=by
 unfold Y9.f
 rw [S8 _ (by omega) (by omega)]
 by_cases h:left<(l.length:Int)
 · rw [if_pos h,if_pos (by omega)]
 · rw [if_neg h,if_neg (by omega)]
theorem C6q (l:List S112) (i:Nat):A0i l (i:Int)=l.getD i z112:=by unfold A0i;rw [Int.toNat_natCast]
theorem C8j  (l:List S112) (hl:l.length≤1048576):Ev (fun k=>P1.f k l) (l.map B1g):=by
 unfold P1.f
 have h:=S1 (fun k s i=>P1.l0 k l s i) l.length (fun i s=>s.take i++(l.drop i).map B1g) (fun i s=>s.length=l.length)
  (fun s hs=>I2 fun k=>by
    simp only [P1.l0]
    rw [if_neg (by omega),List.drop_length,List.map_nil,List.append_nil,← hs,List.take_length])
  (fun i s hi hs=>.inr ⟨s.set i (B1g (l.getD i z112)),by rw [List.length_set];exact hs,by
    rw [List.take_add_one,List.take_set_of_le (Nat.le_refl i),List.getElem?_set_self (by omega),List.drop_eq_getElem_cons hi,List.map_cons]
    have:l.getD i z112=l[i]:=by rw [List.getD_eq_getElem?_getD,List.getElem?_eq_getElem hi];rfl
    rw [this]
    simp,fun k=>by
    show P1.l0 (k+1) l s (i:Int)=_
    simp only [P1.l0]
    rw [if_pos (by omega),if_pos (by omega),J5 hi (by omega)]
    simp only [A1n.f,Option.bind_some,C6q]
    rw [if_pos (by omega)]
    simp only [Int.toNat_natCast]
    rfl⟩) l.length 0 (List.replicate l.length z110) (by omega) (by omega) (by simp)
 refine Ev.congr (fun k=>?_) h
 rw [if_pos (by omega),if_pos (by omega)]
 rfl
theorem C7u (x:S110):A0q.f x.f0 x.f1 x.f2 x.f3 x.f4 x.f0 x.f1 x.f2 x.f3 x.f4=some true:=by unfold A0q.f;simp
theorem D1s (l:List S110) (hl:l.length≤9223372036854775807):Ev (fun k=>P3.f k l l) true:=by
 unfold P3.f
 obtain ⟨r,hr,hiff⟩:=A0k (fun k i=>P3.l0 k l l i) l.length (fun _=>True) true
  (I2 fun k=>by simp only [P3.l0];rw [if_neg (by omega)])
  (fun i hi=>.inl ⟨trivial,fun k=>by
    show P3.l0 (k+1) l l (i:Int)=_
    simp only [P3.l0]
    rw [if_pos (by omega),if_pos (by omega),if_pos (by omega),J5 hi (by omega)]
    simp only [C7u,Option.bind_some,if_true]⟩) l.length 0 (by omega) (by omega)
 obtain rfl:r=true:=hiff.2 ⟨fun _ _ _=>trivial,rfl⟩
 refine Ev.congr (fun k=>?_) hr
 rw [if_pos rfl]
 rfl
def A2o (x:S114):S60:=⟨x.f0,x.f1,x.f2,x.f3,x.f4,x.f5,x.f6,x.f7⟩
theorem C3m  (l:List S114) (left:Int) (h0:0≤left) (h1:left≤1048576) (hm:l.length≤9223372036854775807):V9.f l left=some (if left<(l.length:Int) then -1 else left-l.length):=by
 unfold V9.f
 rw [S8 _ (by omega) (by omega)]
 by_cases h:left<(l.length:Int)
 · rw [if_pos h,if_pos (by omega)]
 · rw [if_neg h,if_neg (by omega)]
theorem B7s (l:List S114) (i:Nat):V0 l (i:Int)=l.getD i z114:=by unfold V0;rw [Int.toNat_natCast]
theorem C3g  (l:List S114) (hl:l.length≤1048576):Ev (fun k=>M7.f k l) (l.map A2o):=by
 unfold M7.f
 have h:=S1 (fun k s i=>M7.l0 k l s i) l.length (fun i s=>s.take i++(l.drop i).map A2o) (fun i s=>s.length=l.length)
  (fun s hs=>I2 fun k=>by
    simp only [M7.l0]
    rw [if_neg (by omega),List.drop_length,List.map_nil,List.append_nil,← hs,List.take_length])
  (fun i s hi hs=>.inr ⟨s.set i (A2o (l.getD i z114)),by rw [List.length_set];exact hs,by
    rw [List.take_add_one,List.take_set_of_le (Nat.le_refl i),List.getElem?_set_self (by omega),List.drop_eq_getElem_cons hi,List.map_cons]
    have:l.getD i z114=l[i]:=by rw [List.getD_eq_getElem?_getD,List.getElem?_eq_getElem hi];rfl
    rw [this]
    simp,fun k=>by
    show M7.l0 (k+1) l s (i:Int)=_
    simp only [M7.l0]
    rw [if_pos (by omega),if_pos (by omega),J5 hi (by omega)]
    simp only [A0c.f,Option.bind_some,B7s]
    rw [if_pos (by omega)]
    simp only [Int.toNat_natCast]
    rfl⟩) l.length 0 (List.replicate l.length z60) (by omega) (by omega) (by simp)
 refine Ev.congr (fun k=>?_) h
 rw [if_pos (by omega),if_pos (by omega)]
 rfl
theorem C0e (x:S60):Y1.f x.f0 x.f1 x.f2 x.f3 x.f4 x.f5 x.f6 x.f7 x.f0 x.f1 x.f2 x.f3 x.f4 x.f5 x.f6 x.f7=some true:=by unfold Y1.f;simp
theorem C4q (l:List S60) (hl:l.length≤9223372036854775807):Ev (fun k=>N4.f k l l) true:=by
 unfold N4.f
 obtain ⟨r,hr,hiff⟩:=A0k (fun k i=>N4.l0 k l l i) l.length (fun _=>True) true
  (I2 fun k=>by simp only [N4.l0];rw [if_neg (by omega)])
  (fun i hi=>.inl ⟨trivial,fun k=>by
    show N4.l0 (k+1) l l (i:Int)=_
    simp only [N4.l0]
    rw [if_pos (by omega),if_pos (by omega),if_pos (by omega),J5 hi (by omega)]
    simp only [C0e,Option.bind_some,if_true]⟩) l.length 0 (by omega) (by omega)
 obtain rfl:r=true:=hiff.2 ⟨fun _ _ _=>trivial,rfl⟩
 refine Ev.congr (fun k=>?_) hr
 rw [if_pos rfl]
 rfl
end Go.Proofs.YtmfgajbkcnlkcaaGreat.T1
namespace Go.Proofs.YtmfgajbkcnlkcaaGreat.T2
open Go Go.RowKit Go.Proofs.YtmfgajbkcnlkcaaGreat.P Go.Proofs.YtmfgajbkcnlkcaaGreatW.PrintWords Go.Proofs.YtmfgajbkcnlkcaaGreatW.PrintLast Go.Proofs.YtmfgajbkcnlkcaaGreat.EV Go.Proofs.YtmfgajbkcnlkcaaGreat.T1
section
variable (l0:List S103) (l1:List S105) (l2:List S108) (l3:List S112) (l4:List S114) (d:Int)
theorem C3o (m0:l0.length≤9223372036854775807) (m1:l1.length≤9223372036854775807) (m2:l2.length≤9223372036854775807) (m3:l3.length≤9223372036854775807) (m4:l4.length≤9223372036854775807) :
 (∃ n:Int,n<0∧V5.f l0 l1 l2 l3 l4 d 1048576=some n)∨(l0.length≤1048576∧l1.length≤1048576∧l2.length≤1048576∧l3.length≤1048576∧l4.length≤1048576∧∃ n:Int,0≤n∧V5.f l0 l1 l2 l3 l4 d 1048576=some n):=by
 unfold V5.f
 rw [B6c l0 1048576 (by decide) (by decide) m0,Option.bind_some]
 by_cases c0:(1048576:Int)<(l0.length:Int)
 · rw [if_pos c0,if_pos (by decide)]
   exact .inl ⟨-1,by decide,rfl⟩
 rw [if_neg c0,if_neg (by omega),C3n l1 _ (by omega) (by omega) m1,Option.bind_some]
 by_cases c1:(1048576:Int)-(l0.length:Int)<(l1.length:Int)
 · rw [if_pos c1,if_pos (by decide)]
   exact .inl ⟨-1,by decide,rfl⟩
 rw [if_neg c1,if_neg (by omega),C8n l2 _ (by omega) (by omega) m2,Option.bind_some]
 by_cases c2:(1048576:Int)-(l0.length:Int)-(l1.length:Int)<(l2.length:Int)
 · rw [if_pos c2,if_pos (by decide)]
   exact .inl ⟨-1,by decide,rfl⟩
 rw [if_neg c2,if_neg (by omega),C8m l3 _ (by omega) (by omega) m3,Option.bind_some]
 by_cases c3:(1048576:Int)-(l0.length:Int)-(l1.length:Int)-(l2.length:Int)<(l3.length:Int)
 · rw [if_pos c3,if_pos (by decide)]
   exact .inl ⟨-1,by decide,rfl⟩
 rw [if_neg c3,if_neg (by omega),C3m l4 _ (by omega) (by omega) m4,Option.bind_some]
 by_cases c4:(1048576:Int)-(l0.length:Int)-(l1.length:Int)-(l2.length:Int)-(l3.length:Int)<(l4.length:Int)
 · rw [if_pos c4,if_pos (by decide)]
   exact .inl ⟨-1,by decide,rfl⟩
 rw [if_neg c4,if_neg (by omega)]
 exact .inr ⟨by omega,by omega,by omega,by omega,by omega,_,by omega,rfl⟩
theorem C3i (m0:l0.length≤1048576) (m1:l1.length≤1048576) (m2:l2.length≤1048576) (m3:l3.length≤1048576) (m4:l4.length≤1048576) :
 Ev (fun k=>R5.f k l0 l1 l2 l3 l4 d) (l0.map A0f,l1.map A2p,l2.map B1h,l3.map B1g,l4.map A2o,d):=by
 unfold R5.f
 exact B8 (B6b l0 m0) (B8 (C3h l1 m1) (B8 (C8k l2 m2) (B8 (C8j l3 m3) (B8 (C3g l4 m4) (Ev.now _)))))
end
theorem B5q (A:List S80) (I:List S84) (B:List S106) (L:List S110) (T:List S60) (d:Int) (m0:A.length≤9223372036854775807) (m1:I.length≤9223372036854775807) (m2:B.length≤9223372036854775807) (m3:L.length≤9223372036854775807) (m4:T.length≤9223372036854775807) :
 Ev (fun k=>R6.f k A I B L T d A I B L T d) true:=by
 unfold R6.f
 exact B8 (B6s A m0) (Ev.congr (fun k=>if_pos rfl) (B8 (C4r I m1) (Ev.congr (fun k=>if_pos rfl) (B8 (D1t B m2) (Ev.congr (fun k=>if_pos rfl) (B8 (D1s L m3) (Ev.congr (fun k=>if_pos rfl) (B8 (C4q T m4) (Ev.congr (fun k=>if_pos rfl) (F3 fun k=>if_pos rfl))))))))))
end Go.Proofs.YtmfgajbkcnlkcaaGreat.T2
namespace Go.Proofs.YtmfgajbkcnlkcaaGreat.N1
open Go Go.RowKit Go.Proofs.YtmfgajbkcnlkcaaGreat.P Go.Proofs.YtmfgajbkcnlkcaaGreatW.PrintWords Go.Proofs.YtmfgajbkcnlkcaaGreatW.PrintLast Go.Proofs.YtmfgajbkcnlkcaaGreat.EV Go.Proofs.YtmfgajbkcnlkcaaGreat.I1
def No (a:Int):Prop:=1≤a∧a≤1000
def Amt (a:Int):Prop:=-1000000000000000≤a∧a≤1000000000000000
instance (a:Int):Decidable (No a):=by unfold No;exact inferInstance
instance (a:Int):Decidable (Amt a):=by unfold Amt;exact inferInstance
theorem no_s (a:Int):I3.f a=some (decide (No a)):=by unfold I3.f;rw [in_s];rfl
theorem no_i (a:Int):I5.f a=some (decide (No a)):=by unfold I5.f;rw [in_i];rfl
theorem B1l (a:Int):M4.f a=some (decide (Amt a)):=by unfold M4.f;rw [in_s];rfl
theorem C8c (a:Int):L7.f a=some (decide (Amt a)):=by unfold L7.f;rw [in_i];rfl
end Go.Proofs.YtmfgajbkcnlkcaaGreat.N1
namespace Go.Proofs.YtmfgajbkcnlkcaaGreat.C1
open Go Go.RowKit Go.Proofs.YtmfgajbkcnlkcaaGreat.P Go.Proofs.YtmfgajbkcnlkcaaGreatW.PrintWords Go.Proofs.YtmfgajbkcnlkcaaGreatW.PrintLast Go.Proofs.YtmfgajbkcnlkcaaGreat.EV Go.Proofs.YtmfgajbkcnlkcaaGreat.I1
theorem no_s (a:Int):I3.f a=some (decide (1≤a∧a≤1000)):=by unfold I3.f;rw [in_s];rfl
theorem no_i (a:Int):I5.f a=some (decide (1≤a∧a≤1000)):=by unfold I5.f;rw [in_i];rfl
def B4j (l:List S80) (j:Nat):Prop:=
 (1≤(l.getD j z80).f0∧(l.getD j z80).f0≤1000)∧(1≤(l.getD j z80).f1∧(l.getD j z80).f1≤4)∧(0<j→(l.getD (j-1) z80).f0<(l.getD j z80).f0)
def OkA (l:List S80):Prop:=l.length≤20∧∀ j,j<l.length→B4j l j
noncomputable def okA (l:List S80):Bool:=@decide (OkA l) (Classical.propDecidable _)
theorem A8r (l:List S80):okA l=true↔OkA l:=by unfold okA;exact @decide_eq_true_iff _ (Classical.propDecidable _)
theorem rdA (l:List S80) (i:Nat):M2 l (i:Int)=l.getD i z80:=by unfold M2;rw [Int.toNat_natCast]
theorem A1d (l:List S80):Ev (fun k=>G6.f k l) (okA l):=by
 unfold G6.f
 by_cases hn:(l.length:Int)>20
 · have:okA l=false:=by
    rw [Bool.eq_false_iff,Ne,A8r]
    intro h
    have:=h.1
    omega
   rw [this]
   exact F3 fun k=>by rw [if_pos hn]
 · obtain ⟨r,hr,hiff⟩:=A0k (fun k i=>G6.l0 k l i) l.length (B4j l) true
    (I2 fun k=>by simp only [G6.l0];rw [if_neg (by omega)])
    (fun i hi=>by
      have e:∀ k,G6.l0 (k+1) l (i:Int)=if (1≤(l.getD i z80).f0∧(l.getD i z80).f0≤1000) then (if (1≤(l.getD i z80).f1∧(l.getD i z80).f1≤4) then (if 0<i then (if (l.getD (i-1) z80).f0<(l.getD i z80).f0 then G6.l0 k l ((i+1:Nat):Int) else some false) else G6.l0 k l ((i+1:Nat):Int)) else some false) else some false:=by
       intro k
       simp only [G6.l0]
       rw [if_pos (by omega),if_pos (by omega)]
       rw [J5 hi (by omega)]
       by_cases h0:0<i
       · rw [A2f hi h0 (by omega)]
         simp only [no_s,in_s,Option.bind_some,decide_eq_true_iff,rdA]
         split
         · split
           · rw [if_pos (by omega),if_pos (by omega),if_pos (by omega)]
             split
             · rw [if_neg (by omega)]
             · rw [if_pos (by omega)]
           · rfl
         · rfl
       · simp only [no_s,in_s,Option.bind_some,decide_eq_true_iff,rdA]
         split
         · split
           · rw [if_neg (by omega)]
           · rfl
         · rfl
      by_cases hg:B4j l i
      · refine .inl ⟨hg,fun k=>?_⟩
        show G6.l0 (k+1) l (i:Int)=_
        rw [e k,if_pos hg.1,if_pos hg.2.1]
        split
        · rename_i h0
          rw [if_pos (hg.2.2 h0)]
        · rfl
      · refine .inr ⟨hg,fun k=>?_⟩
        show G6.l0 (k+1) l (i:Int)=_
        rw [e k]
        unfold B4j at hg
        split
        · rename_i h1
          split
          · rename_i h2
            split
            · rename_i h3
              rw [if_neg (fun h4=>hg ⟨h1,h2,fun _=>h4⟩)]
            · rename_i h3
              exact absurd ⟨h1,h2,fun h4=>absurd h4 h3⟩ hg
          · rfl
        · rfl) l.length 0 (by omega) (by omega)
   have hq:r=okA l:=by
    rw [Bool.eq_iff_iff,hiff,A8r]
    exact ⟨fun h=>⟨by omega,fun j hj=>h.1 j (Nat.zero_le _) hj⟩,fun h=>⟨fun j _ hj=>h.2 j hj,rfl⟩⟩
   subst hq
   exact Ev.congr (fun k=>by rw [if_neg hn];rfl) hr
theorem B1o (l:List S80) (hm:l.length≤9223372036854775807):Ev (fun k=>H4.f k l) (okA l):=by
 unfold H4.f
 obtain ⟨r,hr,hiff⟩:=A0k (fun k i=>H4.l0 k l l (l.length:Int) i) l.length (B4j l) (decide ((l.length:Int)≤20))
  (I2 fun k=>by simp only [H4.l0];rw [if_neg (by omega)])
  (fun i hi=>by
    have e:∀ k,H4.l0 (k+1) l l (l.length:Int) (i:Int)=if (1≤(l.getD i z80).f0∧(l.getD i z80).f0≤1000) then (if (1≤(l.getD i z80).f1∧(l.getD i z80).f1≤4) then (if 0<i then (if (l.getD (i-1) z80).f0<(l.getD i z80).f0 then H4.l0 k l l (l.length:Int) ((i+1:Nat):Int) else some false) else H4.l0 k l l (l.length:Int) ((i+1:Nat):Int)) else some false) else some false:=by
     intro k
     simp only [H4.l0]
     rw [if_pos (by omega),if_pos (by omega),if_pos (by omega)]
     rw [J5 hi (by omega)]
     by_cases h0:0<i
     · rw [A2f hi h0 (by omega)]
       simp only [no_i,in_i,Option.bind_some,decide_eq_true_iff,rdA]
       split
       · split
         · rw [if_pos (by omega),if_pos (by omega),if_pos (by omega)]
           split
           · rw [if_neg (by omega)]
           · rw [if_pos (by omega)]
         · rfl
       · rfl
     · simp only [no_i,in_i,Option.bind_some,decide_eq_true_iff,rdA]
       split
       · split
         · rw [if_neg (by omega)]
         · rfl
       · rfl
    by_cases hg:B4j l i
    · refine .inl ⟨hg,fun k=>?_⟩
      show H4.l0 (k+1) l l (l.length:Int) (i:Int)=_
      rw [e k,if_pos hg.1,if_pos hg.2.1]
      split
      · rename_i h0
        rw [if_pos (hg.2.2 h0)]
      · rfl
    · refine .inr ⟨hg,fun k=>?_⟩
      show H4.l0 (k+1) l l (l.length:Int) (i:Int)=_
      rw [e k]
      unfold B4j at hg
      split
      · rename_i h1
        split
        · rename_i h2
          split
          · rename_i h3
            rw [if_neg (fun h4=>hg ⟨h1,h2,fun _=>h4⟩)]
          · rename_i h3
            exact absurd ⟨h1,h2,fun h4=>absurd h4 h3⟩ hg
        · rfl
      · rfl) l.length 0 (by omega) (by omega)
 have hq:r=okA l:=by
  rw [Bool.eq_iff_iff,hiff,A8r,decide_eq_true_iff]
  exact ⟨fun h=>⟨by omega,fun j hj=>h.1 j (Nat.zero_le _) hj⟩,fun h=>⟨fun j _ hj=>h.2 j hj,by have:=h.1;omega⟩⟩
 subst hq
 exact hr
def B4i (l:List S84) (j:Nat):Prop:=
 (1≤(l.getD j z84).f0∧(l.getD j z84).f0≤1000)∧(1≤(l.getD j z84).f1∧(l.getD j z84).f1≤2)∧(0<j→(l.getD (j-1) z84).f0<(l.getD j z84).f0)
def OkI (l:List S84):Prop:=l.length≤8∧∀ j,j<l.length→B4i l j
noncomputable def okI (l:List S84):Bool:=@decide (OkI l) (Classical.propDecidable _)
theorem B3x (l:List S84):okI l=true↔OkI l:=by unfold okI;exact @decide_eq_true_iff _ (Classical.propDecidable _)
theorem rdI (l:List S84) (i:Nat):M5 l (i:Int)=l.getD i z84:=by unfold M5;rw [Int.toNat_natCast]
theorem A2v (l:List S84):Ev (fun k=>H9.f k l) (okI l):=by
 unfold H9.f
 by_cases hn:(l.length:Int)>8
 · have:okI l=false:=by
    rw [Bool.eq_false_iff,Ne,B3x]
    intro h
    have:=h.1
    omega
   rw [this]
   exact F3 fun k=>by rw [if_pos hn]
 · obtain ⟨r,hr,hiff⟩:=A0k (fun k i=>H9.l0 k l i) l.length (B4i l) true
    (I2 fun k=>by simp only [H9.l0];rw [if_neg (by omega)])
    (fun i hi=>by
      have e:∀ k,H9.l0 (k+1) l (i:Int)=if (1≤(l.getD i z84).f0∧(l.getD i z84).f0≤1000) then (if (1≤(l.getD i z84).f1∧(l.getD i z84).f1≤2) then (if 0<i then (if (l.getD (i-1) z84).f0<(l.getD i z84).f0 then H9.l0 k l ((i+1:Nat):Int) else some false) else H9.l0 k l ((i+1:Nat):Int)) else some false) else some false:=by
       intro k
       simp only [H9.l0]
       rw [if_pos (by omega),if_pos (by omega)]
       rw [J5 hi (by omega)]
       by_cases h0:0<i
       · rw [A2f hi h0 (by omega)]
         simp only [no_s,in_s,Option.bind_some,decide_eq_true_iff,rdI]
         split
         · split
           · rw [if_pos (by omega),if_pos (by omega),if_pos (by omega)]
             split
             · rw [if_neg (by omega)]
             · rw [if_pos (by omega)]
           · rfl
         · rfl
       · simp only [no_s,in_s,Option.bind_some,decide_eq_true_iff,rdI]
         split
         · split
           · rw [if_neg (by omega)]
           · rfl
         · rfl
      by_cases hg:B4i l i
      · refine .inl ⟨hg,fun k=>?_⟩
        show H9.l0 (k+1) l (i:Int)=_
        rw [e k,if_pos hg.1,if_pos hg.2.1]
        split
        · rename_i h0
          rw [if_pos (hg.2.2 h0)]
        · rfl
      · refine .inr ⟨hg,fun k=>?_⟩
        show H9.l0 (k+1) l (i:Int)=_
        rw [e k]
        unfold B4i at hg
        split
        · rename_i h1
          split
          · rename_i h2
            split
            · rename_i h3
              rw [if_neg (fun h4=>hg ⟨h1,h2,fun _=>h4⟩)]
            · rename_i h3
              exact absurd ⟨h1,h2,fun h4=>absurd h4 h3⟩ hg
          · rfl
        · rfl) l.length 0 (by omega) (by omega)
   have hq:r=okI l:=by
    rw [Bool.eq_iff_iff,hiff,B3x]
    exact ⟨fun h=>⟨by omega,fun j hj=>h.1 j (Nat.zero_le _) hj⟩,fun h=>⟨fun j _ hj=>h.2 j hj,rfl⟩⟩
   subst hq
   exact Ev.congr (fun k=>by rw [if_neg hn];rfl) hr
theorem B6k (l:List S84) (hm:l.length≤9223372036854775807):Ev (fun k=>J4.f k l) (okI l):=by
 unfold J4.f
 obtain ⟨r,hr,hiff⟩:=A0k (fun k i=>J4.l0 k l l (l.length:Int) i) l.length (B4i l) (decide ((l.length:Int)≤8))
  (I2 fun k=>by simp only [J4.l0];rw [if_neg (by omega)])
  (fun i hi=>by
    have e:∀ k,J4.l0 (k+1) l l (l.length:Int) (i:Int)=if (1≤(l.getD i z84).f0∧(l.getD i z84).f0≤1000) then (if (1≤(l.getD i z84).f1∧(l.getD i z84).f1≤2) then (if 0<i then (if (l.getD (i-1) z84).f0<(l.getD i z84).f0 then J4.l0 k l l (l.length:Int) ((i+1:Nat):Int) else some false) else J4.l0 k l l (l.length:Int) ((i+1:Nat):Int)) else some false) else some false:=by
     intro k
     simp only [J4.l0]
     rw [if_pos (by omega),if_pos (by omega),if_pos (by omega)]
     rw [J5 hi (by omega)]
     by_cases h0:0<i
     · rw [A2f hi h0 (by omega)]
       simp only [no_i,in_i,Option.bind_some,decide_eq_true_iff,rdI]
       split
       · split
         · rw [if_pos (by omega),if_pos (by omega),if_pos (by omega)]
           split
           · rw [if_neg (by omega)]
           · rw [if_pos (by omega)]
         · rfl
       · rfl
     · simp only [no_i,in_i,Option.bind_some,decide_eq_true_iff,rdI]
       split
       · split
         · rw [if_neg (by omega)]
         · rfl
       · rfl
    by_cases hg:B4i l i
    · refine .inl ⟨hg,fun k=>?_⟩
      show J4.l0 (k+1) l l (l.length:Int) (i:Int)=_
      rw [e k,if_pos hg.1,if_pos hg.2.1]
      split
      · rename_i h0
        rw [if_pos (hg.2.2 h0)]
      · rfl
    · refine .inr ⟨hg,fun k=>?_⟩
      show J4.l0 (k+1) l l (l.length:Int) (i:Int)=_
      rw [e k]
      unfold B4i at hg
      split
      · rename_i h1
        split
        · rename_i h2
          split
          · rename_i h3
            rw [if_neg (fun h4=>hg ⟨h1,h2,fun _=>h4⟩)]
          · rename_i h3
            exact absurd ⟨h1,h2,fun h4=>absurd h4 h3⟩ hg
        · rfl
      · rfl) l.length 0 (by omega) (by omega)
 have hq:r=okI l:=by
  rw [Bool.eq_iff_iff,hiff,B3x,decide_eq_true_iff]
  exact ⟨fun h=>⟨by omega,fun j hj=>h.1 j (Nat.zero_le _) hj⟩,fun h=>⟨fun j _ hj=>h.2 j hj,by have:=h.1;omega⟩⟩
 subst hq
 exact hr
end Go.Proofs.YtmfgajbkcnlkcaaGreat.C1
namespace Go.Proofs.YtmfgajbkcnlkcaaGreat.C2
open Go Go.RowKit Go.Proofs.YtmfgajbkcnlkcaaGreat.P Go.Proofs.YtmfgajbkcnlkcaaGreatW.PrintWords Go.Proofs.YtmfgajbkcnlkcaaGreatW.PrintLast Go.Proofs.YtmfgajbkcnlkcaaGreat.EV Go.Proofs.YtmfgajbkcnlkcaaGreat.I1 Go.Proofs.YtmfgajbkcnlkcaaGreat.C1
def U8:List S80→Int→Int
 | [],_=>0
 | x::l,no=>if x.f0=no then x.f1 else U8 l no
theorem A2n (l:List S80) (no:Int) (hm:l.length≤9223372036854775807):Ev (fun k=>D3.f k l no) (U8 l no):=by
 unfold D3.f
 have h:=S1 (fun k (_:Unit) i=>D3.l0 k no l (l.length:Int) i) l.length (fun i _=>U8 (l.drop i) no) (fun _ _=>True)
  (fun s hs=>I2 fun k=>by
    simp only [D3.l0]
    rw [if_neg (by omega),List.drop_length]
    rfl)
  (fun i s hi _=>by
    have hd:l.drop i=l.getD i z80::l.drop (i+1):=by
     rw [List.drop_eq_getElem_cons hi,List.getD_eq_getElem?_getD,List.getElem?_eq_getElem hi]
     rfl
    have e:∀ k,D3.l0 (k+1) no l (l.length:Int) (i:Int)=if (l.getD i z80).f0=no then some (l.getD i z80).f1 else D3.l0 k no l (l.length:Int) ((i+1:Nat):Int):=by
     intro k
     simp only [D3.l0]
     rw [if_pos (by omega),if_pos (by omega),if_pos (by omega),J5 hi (by omega)]
     simp only [rdA]
    by_cases hq:(l.getD i z80).f0=no
    · refine .inl (I2 fun k=>?_)
      show D3.l0 (k+1) no l (l.length:Int) (i:Int)=some (U8 (l.drop i) no)
      rw [e,if_pos hq,hd]
      unfold U8
      rw [if_pos hq]
    · refine .inr ⟨(),trivial,?_,fun k=>?_⟩
      · show U8 (l.drop (i+1)) no=U8 (l.drop i) no
        rw [hd]
        conv=>rhs;unfold U8
        rw [if_neg hq]
      · show D3.l0 (k+1) no l (l.length:Int) (i:Int)=_
        rw [e,if_neg hq]) l.length 0 () (by omega) (by omega) trivial
 exact h
noncomputable def A8y (l:List S80) (no:Int):Int:=if okA l=true then U8 l no else 0
theorem A6d (l:List S80) (no:Int) (hm:l.length≤9223372036854775807):Ev (fun k=>C9.f k l no) (A8y l no):=by
 unfold C9.f
 have h:=
  X8 (fun k (_:Unit) i=>C9.l0 k l no i) l.length (fun i _=>if okA l=true then U8 (l.drop i) no else 0) (fun _ _=>True)
  (fun s hs=>by
    refine Ev.step (f:=fun k=>C9.j1 k l no (l.length:Int) false) (fun k=>?_) (I2 fun k=>?_)
    · simp only [C9.l0]
      rw [if_neg (by omega)]
    · simp only [C9.j1]
      rw [if_neg (by decide),List.drop_length]
      split<;>rfl)
  (fun i s hi _=>by
    have hd:=L9 z80 l i hi
    have e0:∀ k,C9.l0 (k+1) l no (i:Int)=(G6.f k l).bind fun t=>C9.j1 k l no (i:Int) t:=by
     intro k
     simp only [C9.l0]
     rw [if_pos (by omega)]
    cases hok:okA l with
    | false=>
      left
      refine Ev.step e0 (B8 (A1d l) ?_)
      rw [hok,if_neg (by decide)]
      exact I2 fun k=>by simp only [C9.j1];rw [if_neg (by decide)]
    | true=>
      have e1:∀ k,C9.j1 (k+1) l no (i:Int) true=if (l.getD i z80).f0=no then some (l.getD i z80).f1 else C9.l0 k l no ((i+1:Nat):Int):=by
       intro k
       simp only [C9.j1]
       rw [if_pos trivial,if_pos (by omega),if_pos (by omega),J5 hi (by omega)]
       simp only [rdA]
      by_cases hq:(l.getD i z80).f0=no
      · left
        refine Ev.step e0 (B8 (A1d l) ?_)
        rw [hok,if_pos rfl,hd]
        unfold U8
        rw [if_pos hq]
        exact I2 fun k=>by rw [e1,if_pos hq]
      · refine .inr ⟨(),trivial,?_,fun r hr=>?_⟩
        · rw [if_pos rfl,if_pos rfl,hd]
          conv=>rhs;unfold U8
          rw [if_neg hq]
        · refine Ev.step e0 (B8 (A1d l) ?_)
          rw [hok]
          exact Ev.step (fun k=>by rw [e1,if_neg hq]) hr) l.length 0 () (by omega) (by omega) trivial
 exact h
def Z1:List S84→Int→Int
 | [],_=>0
 | x::l,no=>if x.f0=no then x.f1 else Z1 l no
theorem A6e (l:List S84) (no:Int) (hm:l.length≤9223372036854775807):Ev (fun k=>E8.f k l no) (Z1 l no):=by
 unfold E8.f
 have h:=S1 (fun k (_:Unit) i=>E8.l0 k no l (l.length:Int) i) l.length (fun i _=>Z1 (l.drop i) no) (fun _ _=>True)
  (fun s hs=>I2 fun k=>by
    simp only [E8.l0]
    rw [if_neg (by omega),List.drop_length]
    rfl)
  (fun i s hi _=>by
    have hd:l.drop i=l.getD i z84::l.drop (i+1):=by
     rw [List.drop_eq_getElem_cons hi,List.getD_eq_getElem?_getD,List.getElem?_eq_getElem hi]
     rfl
    have e:∀ k,E8.l0 (k+1) no l (l.length:Int) (i:Int)=if (l.getD i z84).f0=no then some (l.getD i z84).f1 else E8.l0 k no l (l.length:Int) ((i+1:Nat):Int):=by
     intro k
     simp only [E8.l0]
     rw [if_pos (by omega),if_pos (by omega),if_pos (by omega),J5 hi (by omega)]
     simp only [rdI]
    by_cases hq:(l.getD i z84).f0=no
    · refine .inl (I2 fun k=>?_)
      show E8.l0 (k+1) no l (l.length:Int) (i:Int)=some (Z1 (l.drop i) no)
      rw [e,if_pos hq,hd]
      unfold Z1
      rw [if_pos hq]
    · refine .inr ⟨(),trivial,?_,fun k=>?_⟩
      · show Z1 (l.drop (i+1)) no=Z1 (l.drop i) no
        rw [hd]
        conv=>rhs;unfold Z1
        rw [if_neg hq]
      · show E8.l0 (k+1) no l (l.length:Int) (i:Int)=_
        rw [e,if_neg hq]) l.length 0 () (by omega) (by omega) trivial
 exact h
noncomputable def B4a (l:List S84) (no:Int):Int:=if okI l=true then Z1 l no else 0
theorem B0q (l:List S84) (no:Int) (hm:l.length≤9223372036854775807):Ev (fun k=>D6.f k l no) (B4a l no):=by
 unfold D6.f
 have h:=
  X8 (fun k (_:Unit) i=>D6.l0 k l no i) l.length (fun i _=>if okI l=true then Z1 (l.drop i) no else 0) (fun _ _=>True)
  (fun s hs=>by
    refine Ev.step (f:=fun k=>D6.j1 k l no (l.length:Int) false) (fun k=>?_) (I2 fun k=>?_)
    · simp only [D6.l0]
      rw [if_neg (by omega)]
    · simp only [D6.j1]
      rw [if_neg (by decide),List.drop_length]
      split<;>rfl)
  (fun i s hi _=>by
    have hd:=L9 z84 l i hi
    have e0:∀ k,D6.l0 (k+1) l no (i:Int)=(H9.f k l).bind fun t=>D6.j1 k l no (i:Int) t:=by
     intro k
     simp only [D6.l0]
     rw [if_pos (by omega)]
    cases hok:okI l with
    | false=>
      left
      refine Ev.step e0 (B8 (A2v l) ?_)
      rw [hok,if_neg (by decide)]
      exact I2 fun k=>by simp only [D6.j1];rw [if_neg (by decide)]
    | true=>
      have e1:∀ k,D6.j1 (k+1) l no (i:Int) true=if (l.getD i z84).f0=no then some (l.getD i z84).f1 else D6.l0 k l no ((i+1:Nat):Int):=by
       intro k
       simp only [D6.j1]
       rw [if_pos trivial,if_pos (by omega),if_pos (by omega),J5 hi (by omega)]
       simp only [rdI]
      by_cases hq:(l.getD i z84).f0=no
      · left
        refine Ev.step e0 (B8 (A2v l) ?_)
        rw [hok,if_pos rfl,hd]
        unfold Z1
        rw [if_pos hq]
        exact I2 fun k=>by rw [e1,if_pos hq]
      · refine .inr ⟨(),trivial,?_,fun r hr=>?_⟩
        · rw [if_pos rfl,if_pos rfl,hd]
          conv=>rhs;unfold Z1
          rw [if_neg hq]
        · refine Ev.step e0 (B8 (A2v l) ?_)
          rw [hok]
          exact Ev.step (fun k=>by rw [e1,if_neg hq]) hr) l.length 0 () (by omega) (by omega) trivial
 exact h
end Go.Proofs.YtmfgajbkcnlkcaaGreat.C2
namespace Go.Proofs.YtmfgajbkcnlkcaaGreat.B1
open Go Go.RowKit Go.Proofs.YtmfgajbkcnlkcaaGreat.P Go.Proofs.YtmfgajbkcnlkcaaGreatW.PrintWords Go.Proofs.YtmfgajbkcnlkcaaGreatW.PrintLast Go.Proofs.YtmfgajbkcnlkcaaGreat.EV Go.Proofs.YtmfgajbkcnlkcaaGreat.I1 Go.Proofs.YtmfgajbkcnlkcaaGreat.N1
def Bef (a b c d:Int):Prop:=a<c∨(a=c∧b<d)
instance (a b c d:Int):Decidable (Bef a b c d):=by unfold Bef;exact inferInstance
def cmp (a b c d:Int):Int:=if Bef a b c d then -1 else (if a=c∧b=d then 0 else 1)
theorem A2a (a b c d:Int):Q9.f a b c d=some (decide (Bef a b c d)):=by
 unfold Q9.f
 by_cases h:a<c
 · rw [if_pos h,decide_eq_true (show Bef a b c d from .inl h)]
 · rw [if_neg h]
   by_cases h2:a=c
   · rw [if_pos h2]
     congr 1
     rw [Bool.eq_iff_iff,decide_eq_true_iff,decide_eq_true_iff]
     exact ⟨fun g=>.inr ⟨h2,g⟩,fun g=>g.elim (fun g=>absurd g h) (fun g=>g.2)⟩
   · rw [if_neg h2,decide_eq_false (show ¬ Bef a b c d from fun g=>g.elim h fun g=>h2 g.1)]
theorem B5u (a b c d:Int):Ev (fun k=>F8.f k a b c d) (cmp a b c d):=by
 unfold F8.f
 have yes:Bef a b c d→Ev (fun k=>F8.j0 k a b c d true) (cmp a b c d):=fun h=>I2 fun k=>by
  simp only [F8.j0]
  rw [if_pos trivial]
  unfold cmp
  rw [if_pos h]
 have no:¬ Bef a b c d→Ev (fun k=>F8.j0 k a b c d false) (cmp a b c d):=fun h=>I2 fun k=>by
  simp only [F8.j0]
  rw [if_neg (by decide)]
  unfold cmp
  rw [if_neg h]
  by_cases h1:a=c
  · by_cases h2:b=d
    · rw [if_pos h1,if_pos h2,if_pos ⟨h1,h2⟩]
    · rw [if_pos h1,if_neg h2,if_neg fun g=>h2 g.2]
  · rw [if_neg h1,if_neg fun g=>h1 g.1]
 by_cases h:a<c
 · exact Ev.congr (fun k=>by rw [if_pos h]) (yes (.inl h))
 · by_cases h2:a=c
   · by_cases h3:b<d
     · exact Ev.congr (fun k=>by rw [if_neg h,if_pos h2,decide_eq_true h3]) (yes (.inr ⟨h2,h3⟩))
     · exact Ev.congr (fun k=>by rw [if_neg h,if_pos h2,decide_eq_false h3]) (no fun g=>g.elim h fun g=>h3 g.2)
   · exact Ev.congr (fun k=>by rw [if_neg h,if_neg h2]) (no fun g=>g.elim h fun g=>h2 g.1)
theorem A1z {a b c d:Int}:cmp a b c d≥0↔¬ Bef a b c d:=by
 unfold cmp
 by_cases h:Bef a b c d
 · rw [if_pos h]
   exact ⟨fun g=>absurd g (by decide),fun g=>absurd h g⟩
 · rw [if_neg h]
   refine ⟨fun _=>h,fun _=>?_⟩
   split<;>decide
theorem A5h {a b c d:Int}:cmp a b c d=0↔a=c∧b=d:=by
 unfold cmp
 by_cases h:Bef a b c d
 · rw [if_pos h]
   refine ⟨fun g=>absurd g (by decide),fun g=>?_⟩
   unfold Bef at h
   omega
 · rw [if_neg h]
   by_cases h2:a=c∧b=d
   · rw [if_pos h2];exact ⟨fun _=>h2,fun _=>rfl⟩
   · rw [if_neg h2];exact ⟨fun g=>absurd g (by decide),fun g=>absurd g h2⟩
theorem rdB (l:List S106) (i:Nat):C8 l (i:Int)=l.getD i z106:=by unfold C8;rw [Int.toNat_natCast]
def A6t (l:List S106) (j:Nat):Prop:=
 No (l.getD j z106).f0∧No (l.getD j z106).f1∧Amt (l.getD j z106).f2∧(l.getD j z106).f2≠0∧(0<j→Bef (l.getD (j-1) z106).f0 (l.getD (j-1) z106).f1 (l.getD j z106).f0 (l.getD j z106).f1)
def OkB (l:List S106):Prop:=l.length≤160∧∀ j,j<l.length→A6t l j
noncomputable def okB (l:List S106):Bool:=@decide (OkB l) (Classical.propDecidable _)
theorem okB_iff (l:List S106):okB l=true↔OkB l:=by unfold okB;exact @decide_eq_true_iff _ (Classical.propDecidable _)
theorem C5i {l:List S106} (h:¬ OkB l):okB l=false:=by rw [Bool.eq_false_iff,Ne,okB_iff];exact h
theorem A4f (l:List S106):Ev (fun k=>I4.f k l) (okB l):=by
 unfold I4.f
 by_cases hn:(l.length:Int)>160
 · rw [C5i fun h=>by have:=h.1;omega]
   exact F3 fun k=>by rw [if_pos hn]
 · obtain ⟨r,hr,hiff⟩:=A0k (fun k i=>I4.l0 k l i) l.length (A6t l) true
    (I2 fun k=>by simp only [I4.l0];rw [if_neg (by omega)])
    (fun i hi=>by
      have e:∀ k,I4.l0 (k+1) l (i:Int)=if No (l.getD i z106).f0 then (if No (l.getD i z106).f1 then (if Amt (l.getD i z106).f2 then (if (l.getD i z106).f2=0 then some false else (if 0<i then (if Bef (l.getD (i-1) z106).f0 (l.getD (i-1) z106).f1 (l.getD i z106).f0 (l.getD i z106).f1 then I4.l0 k l ((i+1:Nat):Int) else some false) else I4.l0 k l ((i+1:Nat):Int))) else some false) else some false) else some false:=by
       intro k
       simp only [I4.l0]
       rw [if_pos (by omega),if_pos (by omega),J5 hi (by omega)]
       by_cases h0:0<i
       · rw [A2f hi h0 (by omega)]
         simp only [no_s,B1l,A2a,Option.bind_some,decide_eq_true_iff,rdB]
         simp only [if_pos (show (i:Int)>0 by omega),if_pos (show (0:Int)≤((i-1:Nat):Int) by omega),if_pos (show ((i-1:Nat):Int)<(l.length:Int) by omega),if_pos h0]
       · simp only [no_s,B1l,A2a,Option.bind_some,decide_eq_true_iff,rdB]
         simp only [if_neg (show ¬ (i:Int)>0 by omega),if_neg h0]
      by_cases hg:A6t l i
      · refine .inl ⟨hg,fun k=>?_⟩
        obtain ⟨g1,g2,g3,g4,g5⟩:=hg
        show I4.l0 (k+1) l (i:Int)=_
        rw [e k,if_pos g1,if_pos g2,if_pos g3,if_neg g4]
        split
        · rename_i h0
          rw [if_pos (g5 h0)]
        · rfl
      · refine .inr ⟨hg,fun k=>?_⟩
        show I4.l0 (k+1) l (i:Int)=_
        rw [e k]
        unfold A6t at hg
        split
        · rename_i h1
          split
          · rename_i h2
            split
            · rename_i h3
              split
              · rfl
              · rename_i h4
                split
                · rw [if_neg (fun h6=>hg ⟨h1,h2,h3,h4,fun _=>h6⟩)]
                · rename_i h5
                  exact absurd ⟨h1,h2,h3,h4,fun h6=>absurd h6 h5⟩ hg
            · rfl
          · rfl
        · rfl) l.length 0 (by omega) (by omega)
   have hq:r=okB l:=by
    rw [Bool.eq_iff_iff,hiff,okB_iff]
    exact ⟨fun h=>⟨by omega,fun j hj=>h.1 j (Nat.zero_le _) hj⟩,fun h=>⟨fun j _ hj=>h.2 j hj,rfl⟩⟩
   subst hq
   exact Ev.congr (fun k=>by rw [if_neg hn];rfl) hr
theorem B5y (l:List S106) (hm:l.length≤9223372036854775807):Ev (fun k=>G5.f k l) (okB l):=by
 unfold G5.f
 obtain ⟨r,hr,hiff⟩:=Y5 (fun k i=>G5.l0 k l l (l.length:Int) i) l.length (A6t l) (decide ((l.length:Int)≤160))
  (I2 fun k=>by simp only [G5.l0];rw [if_neg (by omega)])
  (fun i hi=>by
    -- the round's first part: what it asks of the balance itself
    have e:∀ k,G5.l0 (k+1) l l (l.length:Int) (i:Int)=G5.j1 k l (i:Int) l (l.length:Int) (i:Int) (!decide (No (l.getD i z106).f0∧No (l.getD i z106).f1∧Amt (l.getD i z106).f2∧(l.getD i z106).f2≠0)) (l.getD i z106).f0 (l.getD i z106).f1 (l.getD i z106).f2:=by
     intro k
     simp only [G5.l0]
     rw [if_pos (by omega),if_pos (by omega),if_pos (by omega)]
     simp only [no_i,C8c,Option.bind_some,decide_eq_true_iff,rdB]
     by_cases h1:No (l.getD i z106).f0
     · by_cases h2:No (l.getD i z106).f1
       · by_cases h3:Amt (l.getD i z106).f2
         · rw [if_pos h1,if_pos h2,if_pos h3]
           congr 1
           by_cases h4:(l.getD i z106).f2=0
           · rw [decide_eq_false (fun g=>g.2.2.2 h4),h4];rfl
           · rw [decide_eq_true (show _∧_ from ⟨h1,h2,h3,h4⟩)];simpa using h4
         · rw [if_pos h1,if_pos h2,if_neg h3,decide_eq_false (fun g=>h3 g.2.2.1)];rfl
       · rw [if_pos h1,if_neg h2,decide_eq_false (fun g=>h2 g.2.1)];rfl
     · rw [if_neg h1,decide_eq_false (fun g=>h1 g.1)];rfl
    by_cases hw:No (l.getD i z106).f0∧No (l.getD i z106).f1∧Amt (l.getD i z106).f2∧(l.getD i z106).f2≠0
    · by_cases h0:0<i
      · have e2:∀ k,G5.j1 (k+1) l (i:Int) l (l.length:Int) (i:Int) false (l.getD i z106).f0 (l.getD i z106).f1 (l.getD i z106).f2=(F8.f k (l.getD (i-1) z106).f0 (l.getD (i-1) z106).f1 (l.getD i z106).f0 (l.getD i z106).f1).bind fun t=>if t≥0 then some false else G5.l0 k l l (l.length:Int) ((i+1:Nat):Int):=by
         intro k
         simp only [G5.j1]
         rw [if_neg (by decide),if_pos (by omega),A2f hi h0 (by omega),if_pos (by omega),if_pos (by omega),J5 hi (by omega)]
         simp only [rdB]
        by_cases hb:Bef (l.getD (i-1) z106).f0 (l.getD (i-1) z106).f1 (l.getD i z106).f0 (l.getD i z106).f1
        · refine .inl ⟨⟨hw.1,hw.2.1,hw.2.2.1,hw.2.2.2,fun _=>hb⟩,fun r hr=>?_⟩
          refine Ev.step (fun k=>by rw [e k,decide_eq_true hw]) (Ev.step e2 (B8 (B5u _ _ _ _) ?_))
          exact Ev.congr (fun k=>by rw [if_neg (fun g=>A1z.1 g hb)]) hr
        · refine .inr ⟨fun g=>hb (g.2.2.2.2 h0),?_⟩
          refine Ev.step (fun k=>by rw [e k,decide_eq_true hw]) (Ev.step e2 (B8 (B5u _ _ _ _) ?_))
          exact F3 fun k=>by rw [if_pos (A1z.2 hb)]
      · refine .inl ⟨⟨hw.1,hw.2.1,hw.2.2.1,hw.2.2.2,fun g=>absurd g h0⟩,fun r hr=>?_⟩
        refine Ev.step (fun k=>by rw [e k,decide_eq_true hw]) (Ev.step (fun k=>?_) hr)
        show G5.j1 (k+1) l (i:Int) l (l.length:Int) (i:Int) false _ _ _=_
        simp only [G5.j1]
        rw [if_neg (by decide),if_neg (by omega),J5 hi (by omega)]
    · refine .inr ⟨fun g=>hw ⟨g.1,g.2.1,g.2.2.1,g.2.2.2.1⟩,?_⟩
      refine Ev.step (fun k=>by rw [e k,decide_eq_false hw]) (I2 fun k=>?_)
      show G5.j1 (k+1) l (i:Int) l (l.length:Int) (i:Int) true _ _ _=_
      simp only [G5.j1]
      rw [if_pos trivial]) l.length 0 (by omega) (by omega)
 have hq:r=okB l:=by
  rw [Bool.eq_iff_iff,hiff,okB_iff,decide_eq_true_iff]
  exact ⟨fun h=>⟨by omega,fun j hj=>h.1 j (Nat.zero_le _) hj⟩,fun h=>⟨fun j _ hj=>h.2 j hj,by have:=h.1;omega⟩⟩
 subst hq
 exact hr
end Go.Proofs.YtmfgajbkcnlkcaaGreat.B1
namespace Go.Proofs.YtmfgajbkcnlkcaaGreat.B2
open Go Go.RowKit Go.Proofs.YtmfgajbkcnlkcaaGreat.P Go.Proofs.YtmfgajbkcnlkcaaGreatW.PrintWords Go.Proofs.YtmfgajbkcnlkcaaGreatW.PrintLast Go.Proofs.YtmfgajbkcnlkcaaGreat.EV Go.Proofs.YtmfgajbkcnlkcaaGreat.I1 Go.Proofs.YtmfgajbkcnlkcaaGreat.N1 Go.Proofs.YtmfgajbkcnlkcaaGreat.B1
abbrev SB:=S106
def ofB (a b:Int):List SB→Int
 | []=>0
 | x::l=>if x.f0=a∧x.f1=b then x.f2 else ofB a b l
theorem A8t (a b:Int) (l:List SB) (i:Nat) (hi:i<l.length):ofB a b (l.drop i)=if (l.getD i z106).f0=a∧(l.getD i z106).f1=b then (l.getD i z106).f2 else ofB a b (l.drop (i+1)):=by
 rw [L9 z106 l i hi];rfl
theorem of_s (l:List SB) (a b:Int) (hm:l.length≤9223372036854775807):Ev (fun k=>N8.f k l a b) (ofB a b l):=by
 unfold N8.f
 have h:=S1 (fun k (_:Unit) i=>N8.l0 k l a b i) l.length (fun i _=>ofB a b (l.drop i)) (fun _ _=>True)
  (fun _ _=>I2 fun k=>by
    simp only [N8.l0]
    rw [if_neg (by omega),List.drop_length]
    rfl)
  (fun i _ hi _=>by
    by_cases h:(l.getD i z106).f0=a∧(l.getD i z106).f1=b
    · refine .inl (I2 fun k=>?_)
      simp only [N8.l0,rdB]
      rw [if_pos (by omega),if_pos (by omega),if_pos h.1,if_pos h.2,A8t a b l i hi,if_pos h]
    · refine .inr ⟨(),trivial,by show ofB a b (l.drop (i+1))=ofB a b (l.drop i);rw [A8t a b l i hi,if_neg h],fun k=>?_⟩
      show N8.l0 (k+1) l a b (i:Int)=_
      simp only [N8.l0,rdB]
      rw [if_pos (by omega),if_pos (by omega),J5 hi (by omega)]
      by_cases h1:(l.getD i z106).f0=a
      · rw [if_pos h1,if_neg fun h2=>h ⟨h1,h2⟩]
      · rw [if_neg h1]) l.length 0 () (by omega) (by omega) trivial
 rw [List.drop_zero] at h
 exact h
theorem ahead {l:List SB} (h:∀ j,j<l.length→A6t l j):∀ (d i j:Nat),j-i=d→i<j→j<l.length→Bef (l.getD i z106).f0 (l.getD i z106).f1 (l.getD j z106).f0 (l.getD j z106).f1:=by
 intro d
 induction d with
 | zero=>intro i j h1 h2;omega
 | succ d ih=>
   intro i j hd hi hj
   have g:=(h j hj).2.2.2.2 (by omega)
   rcases Nat.lt_or_ge i (j-1) with h2 | h2
   · have g2:=ih i (j-1) (by omega) h2 (by omega)
     unfold Bef at *
     omega
   · obtain rfl:i=j-1:=by omega
     exact g
theorem A8s (a b:Int):∀ (l:List SB),(∀ x∈l,¬ (x.f0=a∧x.f1=b))→ofB a b l=0
 | [],_=>rfl
 | x::l,h=>by
   unfold ofB
   rw [if_neg (h x List.mem_cons_self)]
   exact A8s a b l fun y hy=>h y (List.mem_cons_of_mem _ hy)
theorem B5f {l:List SB} {i:Nat} {x:SB} (h:x∈l.drop i):∃ j,i≤j∧j<l.length∧l.getD j z106=x:=by
 obtain ⟨j,hj,rfl⟩:=List.getElem_of_mem h
 rw [List.length_drop] at hj
 refine ⟨i+j,by omega,by omega,?_⟩
 rw [List.getD_eq_getElem?_getD,List.getElem?_eq_getElem (by omega),List.getElem_drop]
 rfl
def atB (a b:Int):List SB→Nat→Nat×Bool
 | [],i=>(i,false)
 | x::l,i=>if cmp x.f0 x.f1 a b≥0 then (i,cmp x.f0 x.f1 a b == 0) else atB a b l (i+1)
theorem A9o (a b:Int) (l:List SB) (i:Nat) (hi:i<l.length):atB a b (l.drop i) i=if cmp (l.getD i z106).f0 (l.getD i z106).f1 a b≥0 then (i,cmp (l.getD i z106).f0 (l.getD i z106).f1 a b == 0) else atB a b (l.drop (i+1)) (i+1):=by
 rw [L9 z106 l i hi];rfl
theorem X6 (a b:Int):∀ (l:List SB) (i:Nat),i≤(atB a b l i).1∧(atB a b l i).1≤i+l.length∧((atB a b l i).2=true→(atB a b l i).1<i+l.length)
 | [],i=>by unfold atB;simp
 | x::l,i=>by
   unfold atB
   have:=X6 a b l (i+1)
   rw [List.length_cons]
   split
   · exact ⟨Nat.le_refl _,by show i≤_;omega,fun _=>by show i<_;omega⟩
   · exact ⟨by omega,by omega,fun h=>by have:=this.2.2 h;omega⟩
theorem at_i (l:List SB) (a b:Int) (hm:l.length≤9223372036854775807):Ev (fun k=>M0.f k l a b) (((atB a b l 0).1:Int),(atB a b l 0).2):=by
 unfold M0.f
 have h:=X8 (fun k (_:Unit) i=>M0.l0 k l a b l (l.length:Int) i) l.length (fun i _=>(((atB a b (l.drop i) i).1:Int),(atB a b (l.drop i) i).2)) (fun _ _=>True)
  (fun _ _=>I2 fun k=>by
    simp only [M0.l0]
    rw [if_neg (by omega),List.drop_length]
    rfl)
  (fun i _ hi _=>by
    have e:∀ k,M0.l0 (k+1) l a b l (l.length:Int) (i:Int)=(F8.f k (l.getD i z106).f0 (l.getD i z106).f1 a b).bind fun t=>if t≥0 then some ((i:Int),t == 0) else M0.l0 k l a b l (l.length:Int) ((i+1:Nat):Int):=by
     intro k
     simp only [M0.l0,rdB]
     rw [if_pos (by omega),if_pos (by omega),if_pos (by omega),J5 hi (by omega)]
    by_cases h:cmp (l.getD i z106).f0 (l.getD i z106).f1 a b≥0
    · refine .inl (Ev.step e (B8 (B5u _ _ _ _) (F3 fun k=>?_)))
      rw [if_pos h,A9o a b l i hi,if_pos h]
    · refine .inr ⟨(),trivial,by show (((atB a b (l.drop (i+1)) (i+1)).1:Int),(atB a b (l.drop (i+1)) (i+1)).2)=(((atB a b (l.drop i) i).1:Int),(atB a b (l.drop i) i).2);rw [A9o a b l i hi,if_neg h],fun r hr=>?_⟩
      exact Ev.step e (B8 (B5u _ _ _ _) (Ev.congr (fun k=>by rw [if_neg h]) hr))) l.length 0 () (by omega) (by omega) trivial
 rw [List.drop_zero] at h
 exact h
theorem D2a {l:List SB} (h:∀ j,j<l.length→A6t l j) (a b:Int):∀ (d i:Nat),l.length-i=d→i≤l.length→(if (atB a b (l.drop i) i).2=true then (l.getD (atB a b (l.drop i) i).1 z106).f2 else 0)=ofB a b (l.drop i):=by
 intro d
 induction d with
 | zero=>
   intro i hd hi
   obtain rfl:i=l.length:=by omega
   rw [List.drop_length]
   rfl
 | succ d ih=>
   intro i hd hi
   have hi2:i<l.length:=by omega
   rw [A9o a b l i hi2,A8t a b l i hi2]
   by_cases h1:cmp (l.getD i z106).f0 (l.getD i z106).f1 a b≥0
   · rw [if_pos h1]
     by_cases h2:(l.getD i z106).f0=a∧(l.getD i z106).f1=b
     · rw [if_pos h2,A5h.2 h2]
       rfl
     · rw [if_neg h2,if_neg (by simp only [beq_iff_eq];rw [A5h];exact h2)]
       symm
       apply A8s
       intro x hx
       obtain ⟨j,hj1,hj2,rfl⟩:=B5f hx
       have g:=ahead h (j-i) i j rfl (by omega) hj2
       have g2:=A1z.1 h1
       unfold Bef at g g2
       omega
   · rw [if_neg h1,ih (i+1) (by omega) (by omega)]
     rw [if_neg]
     intro h2
     exact h1 (by rw [A5h.2 h2];decide)
theorem of_i {l:List SB} (h:OkB l) (a b:Int):Ev (fun k=>R7.f k l a b) (ofB a b l):=by
 unfold R7.f
 have h1:=h.1
 refine B8 (at_i l a b (by omega)) ?_
 have g:=D2a h.2 a b l.length 0 (by omega) (by omega)
 have r:=X6 a b l 0
 rw [List.drop_zero] at g
 rw [← g]
 by_cases h2:(atB a b l 0).2=true
 · refine F3 fun k=>?_
   have:=r.2.2 h2
   rw [if_pos h2,if_pos h2,if_pos (by show (0:Int)≤((atB a b l 0).1:Int);omega),if_pos (by show ((atB a b l 0).1:Int)<_;omega),rdB]
 · refine F3 fun k=>?_
   rw [if_neg h2,if_neg h2]
def sumB (a:Int):List SB→Int
 | []=>0
 | x::l=>(if x.f1=a then x.f2 else 0)+sumB a l
theorem A5q (a:Int) (l:List SB) (i:Nat) (hi:i<l.length):sumB a (l.drop i)=(if (l.getD i z106).f1=a then (l.getD i z106).f2 else 0)+sumB a (l.drop (i+1)):=by
 rw [L9 z106 l i hi];rfl
theorem A7h {l:List SB} (h:∀ j,j<l.length→A6t l j) (a:Int):∀ (d i:Nat),l.length-i=d→i≤l.length→-(1000000000000000*(l.length-i:Int))≤sumB a (l.drop i)∧sumB a (l.drop i)≤1000000000000000*(l.length-i:Int):=by
 intro d
 induction d with
 | zero=>
   intro i hd hi
   obtain rfl:i=l.length:=by omega
   rw [List.drop_length]
   unfold sumB
   omega
 | succ d ih=>
   intro i hd hi
   rw [A5q a l i (by omega)]
   have:=ih (i+1) (by omega) (by omega)
   have g:Amt _:=(h i (by omega)).2.2.1
   unfold Amt at g
   split<;>omega
def told (n:Int) (ok:Bool):Int×Bool:=if ok=true∧Amt n then (n,true) else (0,false)
theorem C4z (n:Int) (ok:Bool):S9.f n ok=some (told n ok):=by
 unfold S9.f told
 rw [B1l,Option.bind_some]
 cases ok with
 | true=>
   rw [if_pos rfl]
   by_cases h:Amt n
   · rw [if_pos (decide_eq_true h),if_pos ⟨rfl,h⟩]
   · rw [if_neg (by rw [decide_eq_false h];decide),if_neg fun g=>h g.2]
 | false=>rw [if_neg (by decide),if_neg fun g=>absurd g.1 (by decide)]
theorem C8o {l:List SB} (h:OkB l) (a:Int):Ev (fun k=>H8.f k l a) (sumB a l):=by
 unfold H8.f
 have h1:=h.1
 have hb:=fun i hi=>A7h h.2 a (l.length-i) i rfl hi
 have h':=S1 (fun k s i=>H8.l0 k a s l (l.length:Int) i) l.length (fun i s=>s+sumB a (l.drop i)) (fun i s=>s+sumB a (l.drop i)=sumB a l)
  (fun s hs=>I2 fun k=>by
    simp only [H8.l0]
    rw [if_neg (by omega),List.drop_length]
    show some s=some (s+0)
    rw [Int.add_zero])
  (fun i s hi hs=>by
    have e:=A5q a l i hi
    have b0:=hb 0 (by omega)
    have b1:=hb (i+1) (by omega)
    rw [List.drop_zero] at b0
    refine .inr ⟨s+(if (l.getD i z106).f1=a then (l.getD i z106).f2 else 0),by omega,by omega,fun k=>?_⟩
    show H8.l0 (k+1) a s l (l.length:Int) (i:Int)=_
    simp only [H8.l0,rdB]
    rw [if_pos (by omega),if_pos (by omega),if_pos (by omega),J5 hi (by omega)]
    by_cases h2:(l.getD i z106).f1=a
    · rw [if_pos h2] at e
      rw [if_pos h2,if_pos h2,S8 _ (by omega) (by omega)]
    · rw [if_neg h2,if_neg h2,Int.add_zero]) l.length 0 0 (by omega) (by omega) (by rw [List.drop_zero];omega)
 rw [List.drop_zero,Int.zero_add] at h'
 exact h'
noncomputable def A9n (l:List SB) (a:Int):Int×Bool:=if okB l=true then told (sumB a l) true else (0,false)
theorem B1k (l:List SB) (a:Int):Ev (fun k=>G3.f k l a) (A9n l a):=by
 unfold G3.f A9n
 have last:∀ s:Int,(okB l=false→s=0)→Ev (fun k=>(I4.f k l).bind fun t214=>((S9.f s t214).bind fun bt215=>(some (bt215.1,bt215.2)))) (if okB l=true then told s true else (0,false)):=fun s _=>by
  refine B8 (A4f l) (F3 fun k=>?_)
  rw [C4z]
  cases okB l with
  | true=>rfl
  | false=>rw [if_neg (by decide)];unfold told;rw [if_neg fun g=>absurd g.1 (by decide)];rfl
 by_cases h:OkB l
 · have h1:=h.1
   have ht:=(okB_iff l).2 h
   have hb:=fun i hi=>A7h h.2 a (l.length-i) i rfl hi
   have h':=X8 (fun k s i=>G3.l0 k l a s i) l.length (fun i s=>if okB l=true then told (s+sumB a (l.drop i)) true else (0,false)) (fun i s=>s+sumB a (l.drop i)=sumB a l)
    (fun s hs=>by
      refine Ev.step (f:=fun k=>G3.j1 k l a s (l.length:Int) false) (fun k=>by simp only [G3.l0];rw [if_neg (by omega)]) ?_
      refine Ev.step (fun k=>by simp only [G3.j1];rw [if_neg (by decide)]) ?_
      have:=last s (fun g=>by rw [ht] at g;cases g)
      rw [List.drop_length]
      show Ev _ (if okB l=true then told (s+0) true else (0,false))
      rw [Int.add_zero]
      exact this)
    (fun i s hi hs=>by
      have e:=A5q a l i hi
      have b0:=hb 0 (by omega)
      have b1:=hb (i+1) (by omega)
      rw [List.drop_zero] at b0
      refine .inr ⟨s+(if (l.getD i z106).f1=a then (l.getD i z106).f2 else 0),by omega,by
       show (if okB l=true then told (s+(if (l.getD i z106).f1=a then (l.getD i z106).f2 else 0)+sumB a (l.drop (i+1))) true else (0,false))=if okB l=true then told (s+sumB a (l.drop i)) true else (0,false)
       rw [e,Int.add_assoc],fun r hr=>?_⟩
      refine Ev.step (f:=fun k=>(I4.f k l).bind fun t211=>G3.j1 k l a s (i:Int) t211) (fun k=>by simp only [G3.l0];rw [if_pos (by omega)]) (B8 (A4f l) ?_)
      rw [ht]
      refine Ev.step (fun k=>?_) hr
      show G3.j1 (k+1) l a s (i:Int) true=_
      simp only [G3.j1,rdB]
      rw [if_pos trivial,if_pos (by omega),if_pos (by omega),J5 hi (by omega)]
      by_cases h2:(l.getD i z106).f1=a
      · rw [if_pos h2] at e
        rw [if_pos h2,if_pos h2,S8 _ (by omega) (by omega)]
      · rw [if_neg h2,if_neg h2,Int.add_zero]) l.length 0 0 (by omega) (by omega) (by rw [List.drop_zero];omega)
   rw [List.drop_zero,Int.zero_add] at h'
   exact h'
 · have hf:=C5i h
   have hr:(if okB l=true then told (sumB a l) true else (0,false))=(if okB l=true then told 0 true else (0,false)):=by rw [hf];rfl
   rw [hr]
   by_cases h0:(0:Int)<(l.length:Int)
   · refine Ev.step (f:=fun k=>(I4.f k l).bind fun t211=>G3.j1 k l a 0 0 t211) (fun k=>by simp only [G3.l0];rw [if_pos h0]) (B8 (A4f l) ?_)
     have hz:=last 0 fun _=>rfl
     rw [hf] at hz ⊢
     refine Ev.step (fun k=>by simp only [G3.j1];rw [if_neg (by decide)]) ?_
     exact hz
   · refine Ev.step (f:=fun k=>G3.j1 k l a 0 0 false) (fun k=>by simp only [G3.l0];rw [if_neg h0]) ?_
     refine Ev.step (fun k=>by simp only [G3.j1];rw [if_neg (by decide)]) ?_
     exact last 0 fun _=>rfl
end Go.Proofs.YtmfgajbkcnlkcaaGreat.B2
namespace Go.Proofs.YtmfgajbkcnlkcaaGreat.E1
open Go Go.RowKit Go.Proofs.YtmfgajbkcnlkcaaGreat.P Go.Proofs.YtmfgajbkcnlkcaaGreatW.PrintWords Go.Proofs.YtmfgajbkcnlkcaaGreatW.PrintLast Go.Proofs.YtmfgajbkcnlkcaaGreat.EV Go.Proofs.YtmfgajbkcnlkcaaGreat.I1 Go.Proofs.YtmfgajbkcnlkcaaGreat.N1
abbrev SL:=S110
theorem rdL (l:List SL) (i:Nat):A4 l (i:Int)=l.getD i z110:=by unfold A4;rw [Int.toNat_natCast]
def Form (x:SL):Prop:=No x.f0∧No x.f1∧(1≤x.f2∧x.f2≤1000000000)∧(1≤x.f3∧x.f3≤1000000000000000)∧0≤x.f4∧x.f4≤1000000000000000
instance (x:SL):Decidable (Form x):=by unfold Form No;exact inferInstance
def Lt (x y:SL):Prop:=x.f0<y.f0∨(x.f0=y.f0∧(x.f1<y.f1∨(x.f1=y.f1∧x.f2<y.f2)))
instance (x y:SL):Decidable (Lt x y):=by unfold Lt;exact inferInstance
theorem Lt.trans {x y z:SL} (h:Lt x y) (g:Lt y z):Lt x z:=by
 unfold Lt at *
 omega
def qty (a b:Int):List SL→Int
 | []=>0
 | x::xs=>(if x.f0=a∧x.f1=b then x.f3 else 0)+qty a b xs
def cst (a b:Int):List SL→Int
 | []=>0
 | x::xs=>(if x.f0=a∧x.f1=b then x.f4 else 0)+cst a b xs
def Chn:Option SL→List SL→Prop
 | _,[]=>True
 | none,x::xs=>Chn (some x) xs
 | some y,x::xs=>Lt y x∧Chn (some x) xs
def Right (l:List SL):Prop:=l.length≤120∧(∀ x∈l,Form x)∧Chn none l∧∀ a b,Amt (qty a b l)∧Amt (cst a b l)
theorem Chn.tail {y x:SL} {l:List SL} (h:Lt y x) (g:Chn (some x) l):Chn (some y) l:=by
 cases l with
 | nil=>trivial
 | cons z zs=>exact ⟨h.trans g.1,g.2⟩
theorem Chn.all {y:SL}:∀ {l:List SL},Chn (some y) l→∀ x∈l,Lt y x
 | [],_,x,hx=>by cases hx
 | z::zs,h,x,hx=>by
   rcases List.mem_cons.1 hx with rfl | hx
   · exact h.1
   · exact Chn.all (Chn.tail h.1 h.2) x hx
theorem A8m {a b:Int}:∀ {l:List SL},(∀ x∈l,¬(x.f0=a∧x.f1=b))→qty a b l=0∧cst a b l=0
 | [],_=>⟨rfl,rfl⟩
 | x::xs,h=>by
   have ih:=A8m (l:=xs) fun y hy=>h y (List.mem_cons_of_mem _ hy)
   have hx:=h x (List.mem_cons_self ..)
   simp only [qty,cst]
   rw [if_neg hx,if_neg hx,ih.1,ih.2]
   exact ⟨rfl,rfl⟩
theorem B7u {a b:Int}:∀ {l:List SL},(∀ x∈l,Form x)→0≤qty a b l∧0≤cst a b l∧qty a b l≤l.length*1000000000000000∧cst a b l≤l.length*1000000000000000
 | [],_=>⟨Int.le_refl _,Int.le_refl _,by simp [qty],by simp [cst]⟩
 | x::xs,h=>by
   have ih:=B7u (a:=a) (b:=b) (l:=xs) fun y hy=>h y (List.mem_cons_of_mem _ hy)
   have hx:=h x (List.mem_cons_self ..)
   unfold Form at hx
   simp only [qty,cst,List.length_cons]
   split<;>omega
theorem A1z (x y:SL):0≤A9.cmp x y↔¬Lt x y:=by
 unfold A9.cmp Lt
 by_cases h0:x.f0<y.f0
 · rw [if_pos h0];omega
 · rw [if_neg h0]
   by_cases h1:y.f0<x.f0
   · rw [if_pos h1];omega
   · rw [if_neg h1]
     by_cases h2:x.f1<y.f1
     · rw [if_pos h2];omega
     · rw [if_neg h2]
       by_cases h3:y.f1<x.f1
       · rw [if_pos h3];omega
       · rw [if_neg h3]
         by_cases h4:x.f2<y.f2
         · rw [if_pos h4];omega
         · rw [if_neg h4]
           by_cases h5:y.f2<x.f2
           · rw [if_pos h5];omega
           · rw [if_neg h5];omega
theorem A5g (x:SL):A9.form x=true↔Form x:=by
 unfold A9.form Form No
 rw [decide_eq_true_iff]
def prev (l:List SL) (i:Nat):Option SL:=if 0<i then some (l.getD (i-1) z110) else none
theorem C5y (l:List SL):∀ (n i:Nat),l.length-i=n→i≤l.length→(A9.chk l n i=true↔(∀ x∈l.drop i,Form x)∧Chn (prev l i) (l.drop i))
 | 0,i,hn,hi=>by
   obtain rfl:i=l.length:=by omega
   rw [List.drop_length]
   unfold A9.chk
   exact ⟨fun _=>⟨fun x hx=>(by cases hx),trivial⟩,fun _=>rfl⟩
 | n+1,i,hn,hi=>by
   have h1:i<l.length:=by omega
   have ih:=C5y l n (i+1) (by omega) (by omega)
   have ep:prev l (i+1)=some (l.getD i z110):=by unfold prev;rw [if_pos (by omega),Nat.add_sub_cancel]
   rw [ep] at ih
   rw [L9 z110 l i h1]
   unfold A9.chk
   by_cases h0:0<i
   · have e0:prev l i=some (l.getD (i-1) z110):=by unfold prev;rw [if_pos h0]
     rw [e0]
     constructor
     · intro h
       split at h
       · rename_i hg
         have h2:=ih.1 h
         refine ⟨fun x hx=>?_,Classical.byContradiction fun hh=>hg.2 ⟨h0,(A1z _ _).2 fun hl=>hh ⟨hl,h2.2⟩⟩⟩
         rcases List.mem_cons.1 hx with rfl | hx
         · exact (A5g _).1 hg.1
         · exact h2.1 x hx
       · cases h
     · rintro ⟨hf,hl,hc⟩
       rw [if_pos ⟨(A5g _).2 (hf _ (List.mem_cons_self ..)),fun hh=>(A1z _ _).1 hh.2 hl⟩]
       exact ih.2 ⟨fun x hx=>hf x (List.mem_cons_of_mem _ hx),hc⟩
   · have e0:prev l i=none:=by unfold prev;rw [if_neg h0]
     rw [e0]
     constructor
     · intro h
       split at h
       · rename_i hg
         have h2:=ih.1 h
         refine ⟨fun x hx=>?_,h2.2⟩
         rcases List.mem_cons.1 hx with rfl | hx
         · exact (A5g _).1 hg.1
         · exact h2.1 x hx
       · cases h
     · rintro ⟨hf,hc⟩
       rw [if_pos ⟨(A5g _).2 (hf _ (List.mem_cons_self ..)),fun hh=>h0 hh.1⟩]
       exact ih.2 ⟨fun x hx=>hf x (List.mem_cons_of_mem _ hx),hc⟩
theorem B7i (a b:Int):∀ (l:List SL) (q c:Int),(∀ x∈l,Form x)→0≤q→0≤c→q+l.length*1000000000000000≤9000000000000000000→c+l.length*1000000000000000≤9000000000000000000→
 A9.sum3 (A9.of l a b) q=q+qty a b l∧A9.sum4 (A9.of l a b) c=c+cst a b l
 | [],q,c,_,_,_,_,_=>by simp [A9.of,A9.sum3,A9.sum4,qty,cst]
 | x::xs,q,c,hf,h0,h1,h2,h3=>by
   have hx:=hf x (List.mem_cons_self ..)
   have hxs:∀ y∈xs,Form y:=fun y hy=>hf y (List.mem_cons_of_mem _ hy)
   unfold Form at hx
   simp only [List.length_cons] at h2 h3
   by_cases hk:x.f0=a∧x.f1=b
   · have e:A9.of (x::xs) a b=x::A9.of xs a b:=by
      unfold A9.of
      rw [List.filter_cons_of_pos (by simpa using hk)]
     have ih:=B7i a b xs (q+x.f3) (c+x.f4) hxs (by omega) (by omega) (by omega) (by omega)
     rw [e]
     simp only [A9.sum3,A9.sum4,List.foldl_cons,qty,cst] at ih ⊢
     rw [if_pos hk,if_pos hk,S8 (q+x.f3) (by omega) (by omega),S8 (c+x.f4) (by omega) (by omega),ih.1,ih.2]
     omega
   · have e:A9.of (x::xs) a b=A9.of xs a b:=by
      unfold A9.of
      rw [List.filter_cons_of_neg (by simpa using hk)]
     have ih:=B7i a b xs q c hxs (by omega) (by omega) (by omega) (by omega)
     rw [e]
     simp only [qty,cst]
     rw [if_neg hk,if_neg hk,ih.1,ih.2]
     omega
theorem B4y (l:List SL) (hl:l.length≤120) (hf:∀ x∈l,Form x) (x:SL):A9.over l x=false↔Amt (qty x.f0 x.f1 l)∧Amt (cst x.f0 x.f1 l):=by
 have h:=B7i x.f0 x.f1 l 0 0 hf (Int.le_refl _) (Int.le_refl _) (by omega) (by omega)
 unfold A9.over
 rw [h.1,h.2,Int.zero_add,Int.zero_add]
 unfold A9.amt Amt
 by_cases h1 : -1000000000000000≤qty x.f0 x.f1 l∧qty x.f0 x.f1 l≤1000000000000000
 · by_cases h2 : -1000000000000000≤cst x.f0 x.f1 l∧cst x.f0 x.f1 l≤1000000000000000
   · simp [h1,h2]
   · rw [if_pos (decide_eq_true h1),decide_eq_false h2]
     exact ⟨fun h=>Bool.noConfusion h,fun h=>absurd h.2 h2⟩
 · rw [if_neg (by rw [decide_eq_false h1];decide)]
   exact ⟨fun h=>Bool.noConfusion h,fun h=>absurd h.1 h1⟩
theorem ok_iff (l:List SL):A9.ok l=true↔Right l:=by
 unfold A9.ok
 have hc:=C5y l l.length 0 (by omega) (by omega)
 rw [List.drop_zero] at hc
 by_cases h1:A9.chk l l.length 0=true
 · rw [if_pos h1]
   have hg:=hc.1 h1
   by_cases h2:(l.length:Int)>120
   · rw [if_pos h2]
     exact ⟨fun h=>Bool.noConfusion h,fun h=>absurd h.1 (by omega)⟩
   · rw [if_neg h2]
     have h3:l.length≤120:=by omega
     constructor
     · intro h
       have h4:l.any (A9.over l)=false:=by simpa using h
       refine ⟨h3,hg.1,hg.2,fun a b=>?_⟩
       by_cases hx:∃ x∈l,x.f0=a∧x.f1=b
       · obtain ⟨x,hx,rfl,rfl⟩:=hx
         have h5:=List.any_eq_false.1 h4 x hx
         exact (B4y l h3 hg.1 x).1 (by simpa using h5)
       · have h6:=A8m (a:=a) (b:=b) (l:=l) fun x hm hk=>hx ⟨x,hm,hk⟩
         rw [h6.1,h6.2]
         unfold Amt
         omega
     · intro h
       have h4:l.any (A9.over l)=false:=by
        rw [List.any_eq_false]
        intro x _
        rw [(B4y l h3 hg.1 x).2 (h.2.2.2 x.f0 x.f1)]
        decide
       rw [h4]
       rfl
 · rw [if_neg h1]
   exact ⟨fun h=>Bool.noConfusion h,fun h=>absurd (hc.2 ⟨h.2.1,h.2.2.1⟩) h1⟩
theorem some_s (a lo:Int):J9.f a lo=some (decide (lo≤a∧a≤1000000000000000)):=by
 unfold J9.f
 first | (rw [in_s];rfl) | (rw [in_s])
theorem A3f (x:SL):U5.f x.f0 x.f1 x.f2 x.f3 x.f4=some (decide (Form x)):=by
 unfold U5.f
 simp only [no_s,in_s,some_s,Option.bind_some,decide_eq_true_iff]
 by_cases h0:No x.f0
 · by_cases h1:No x.f1
   · by_cases h2:1≤x.f2∧x.f2≤1000000000
     · by_cases h3:1≤x.f3∧x.f3≤1000000000000000
       · by_cases h4:0≤x.f4∧x.f4≤1000000000000000
         · rw [if_pos h0,if_pos h1,if_pos h2,if_pos h3,decide_eq_true h4,decide_eq_true (show Form x from ⟨h0,h1,h2,h3,h4⟩)]
         · rw [if_pos h0,if_pos h1,if_pos h2,if_pos h3,decide_eq_false h4,decide_eq_false (fun g:Form x=>h4 g.2.2.2.2)]
       · rw [if_pos h0,if_pos h1,if_pos h2,if_neg h3,decide_eq_false (fun g:Form x=>h3 g.2.2.2.1)]
     · rw [if_pos h0,if_pos h1,if_neg h2,decide_eq_false (fun g:Form x=>h2 g.2.2.1)]
   · rw [if_pos h0,if_neg h1,decide_eq_false (fun g:Form x=>h1 g.2.1)]
 · rw [if_neg h0,decide_eq_false (fun g:Form x=>h0 g.1)]
theorem A2a (x y:SL):T5.f x.f0 x.f1 x.f2 x.f3 x.f4 y.f0 y.f1 y.f2 y.f3 y.f4=some (decide (Lt x y)):=by
 unfold T5.f Q9.f Lt
 by_cases h0:x.f0<y.f0
 · simp [h0]
 · by_cases h1:x.f0=y.f0
   · by_cases h2:x.f1<y.f1
     · simp [h1,h2]
     · by_cases h3:x.f1=y.f1<;>simp [h1,h2,h3]
   · simp [h0,h1]
def base (p:Option SL) (q a b:Int):Int:=match p with
 | none=>0
 | some y=>if y.f0=a∧y.f1=b then q else 0
def Aft (p:Option SL) (x:SL):Prop:=match p with
 | none=>True
 | some y=>Lt y x
instance (p:Option SL) (x:SL):Decidable (Aft p x):=by unfold Aft;split<;>exact inferInstance
def go:Option SL→Int→Int→List SL→Bool
 | _,_,_,[]=>true
 | p,q,c,x::xs=>if Form x∧Aft p x then (if Amt (base p q x.f0 x.f1+x.f3)∧Amt (base p c x.f0 x.f1+x.f4) then go (some x) (base p q x.f0 x.f1+x.f3) (base p c x.f0 x.f1+x.f4) xs else false) else false
theorem C4u (p:Option SL) (x:SL) (xs:List SL):Chn p (x::xs)↔Aft p x∧Chn (some x) xs:=by
 cases p with
 | none=>exact ⟨fun h=>⟨trivial,h⟩,fun h=>h.2⟩
 | some y=>exact Iff.rfl
theorem A2x (p:Option SL) (q a b:Int) (h0:0≤q) (h1:q≤1000000000000000):0≤base p q a b∧base p q a b≤1000000000000000:=by
 cases p with
 | none=>simp only [base];omega
 | some y=>simp only [base];split<;>omega
theorem B5x (x:SL) (q:Int):base (some x) q x.f0 x.f1=q:=by simp only [base];rw [if_pos ⟨trivial,trivial⟩]
theorem A2y {x:SL} {q a b:Int} (h:¬(x.f0=a∧x.f1=b)):base (some x) q a b=0:=by simp only [base];rw [if_neg h]
theorem gone {y x:SL} {xs:List SL} {a b:Int} (hl:Lt y x) (hc:Chn (some x) xs) (hy:y.f0=a∧y.f1=b) (hx:¬(x.f0=a∧x.f1=b)):qty a b xs=0∧cst a b xs=0:=
 A8m fun z hz hk=>by
  have h1:=Chn.all hc z hz
  unfold Lt at h1 hl
  omega
theorem C5v:∀ (l:List SL) (p:Option SL) (q c:Int),0≤q→q≤1000000000000000→0≤c→c≤1000000000000000→
 (go p q c l=true↔(∀ x∈l,Form x)∧Chn p l∧∀ a b,Amt (base p q a b+qty a b l)∧Amt (base p c a b+cst a b l))
 | [],p,q,c,q0,q1,c0,c1=>by
   refine ⟨fun _=>⟨fun x hx=>(by cases hx),by cases p<;>trivial,fun a b=>?_⟩,fun _=>by cases p<;>rfl⟩
   have h1:=A2x p q a b q0 q1
   have h2:=A2x p c a b c0 c1
   simp only [qty,cst]
   unfold Amt
   omega
 | x::xs,p,q,c,q0,q1,c0,c1=>by
   have hb1:=A2x p q x.f0 x.f1 q0 q1
   have hb2:=A2x p c x.f0 x.f1 c0 c1
   rw [go,C4u]
   by_cases h1:Form x∧Aft p x
   · rw [if_pos h1]
     have hfx:=h1.1
     unfold Form at hfx
     by_cases h2:Amt (base p q x.f0 x.f1+x.f3)∧Amt (base p c x.f0 x.f1+x.f4)
     · rw [if_pos h2]
       have ih:=C5v xs (some x) (base p q x.f0 x.f1+x.f3) (base p c x.f0 x.f1+x.f4) (by omega) h2.1.2 (by omega) h2.2.2
       have key:Chn (some x) xs→∀ a b,((Amt (base (some x) (base p q x.f0 x.f1+x.f3) a b+qty a b xs)∧Amt (base (some x) (base p c x.f0 x.f1+x.f4) a b+cst a b xs))↔(Amt (base p q a b+qty a b (x::xs))∧Amt (base p c a b+cst a b (x::xs)))):=by
        intro hc a b
        by_cases hk:x.f0=a∧x.f1=b
        · obtain ⟨rfl,rfl⟩:=hk
          rw [B5x,B5x]
          simp only [qty,cst]
          rw [if_pos ⟨trivial,trivial⟩,if_pos ⟨trivial,trivial⟩,Int.add_assoc,Int.add_assoc]
        · rw [A2y hk,A2y hk]
          simp only [qty,cst]
          rw [if_neg hk,if_neg hk]
          simp only [Int.zero_add]
          cases p with
          | none=>simp only [base,Int.zero_add]
          | some y=>
            by_cases hy:y.f0=a∧y.f1=b
            · have hg:=gone h1.2 hc hy hk
              simp only [base]
              rw [if_pos hy,if_pos hy,hg.1,hg.2]
              unfold Amt
              omega
            · rw [A2y hy,A2y hy]
              simp only [Int.zero_add]
       constructor
       · intro h
         obtain ⟨f1,f2,f3⟩:=ih.1 h
         refine ⟨fun z hz=>?_,⟨h1.2,f2⟩,fun a b=>(key f2 a b).1 (f3 a b)⟩
         rcases List.mem_cons.1 hz with rfl | hz
         · exact h1.1
         · exact f1 z hz
       · rintro ⟨f1,⟨_,f2⟩,f3⟩
         exact ih.2 ⟨fun z hz=>f1 z (List.mem_cons_of_mem _ hz),f2,fun a b=>(key f2 a b).2 (f3 a b)⟩
     · rw [if_neg h2]
       refine ⟨fun h=>Bool.noConfusion h,fun h=>absurd ?_ h2⟩
       obtain ⟨f1,⟨_,f2⟩,f3⟩:=h
       have h3:=f3 x.f0 x.f1
       have h4:=B7u (a:=x.f0) (b:=x.f1) (l:=xs) fun z hz=>f1 z (List.mem_cons_of_mem _ hz)
       simp only [qty,cst] at h3
       rw [if_pos ⟨trivial,trivial⟩,if_pos ⟨trivial,trivial⟩] at h3
       unfold Amt at h3 ⊢
       omega
   · rw [if_neg h1]
     exact ⟨fun h=>Bool.noConfusion h,fun h=>absurd ⟨h.1 x (List.mem_cons_self ..),h.2.1.1⟩ h1⟩
theorem lotsOk_s (l:List SL):Ev (fun k=>C7.f k l) (A9.ok l):=by
 unfold C7.f
 have hok:A9.ok l=(if (l.length:Int)>120 then false else go none 0 0 l):=by
  rw [Bool.eq_iff_iff,ok_iff]
  by_cases h:(l.length:Int)>120
  · rw [if_pos h]
    exact ⟨fun g=>absurd g.1 (by omega),fun g=>Bool.noConfusion g⟩
  · rw [if_neg h,C5v l none 0 0 (by omega) (by omega) (by omega) (by omega)]
    unfold Right
    simp only [base,Int.zero_add]
    exact ⟨fun g=>g.2,fun g=>⟨by omega,g⟩⟩
 rw [hok]
 by_cases hn:(l.length:Int)>120
 · rw [if_pos hn]
   exact F3 fun k=>by rw [if_pos hn]
 · rw [if_neg hn]
   have h:=
    X8 (fun k (s:Int×Int) i=>C7.l0 k l s.1 s.2 i) l.length (fun i s=>go (prev l i) s.1 s.2 (l.drop i)) (fun i s=>0≤s.1∧s.1≤1000000000000000∧0≤s.2∧s.2≤1000000000000000)
    (fun s hs=>I2 fun k=>by
      simp only [C7.l0]
      rw [if_neg (by omega),List.drop_length]
      cases prev l l.length<;>rfl)
    (fun i s hi hs=>by
      obtain ⟨q,c⟩:=s
      obtain ⟨q0,q1,c0,c1⟩:=hs
      simp only at q0 q1 c0 c1
      show (Ev (fun k=>C7.l0 k l q c (i:Int)) (go (prev l i) q c (l.drop i)))∨_
      have ep:prev l (i+1)=some (l.getD i z110):=by unfold prev;rw [if_pos (by omega),Nat.add_sub_cancel]
      rw [L9 z110 l i hi]
      show (Ev (fun k=>C7.l0 k l q c (i:Int)) (go (prev l i) q c (l.getD i z110::l.drop (i+1))))∨∃ s':Int×Int,_∧go (prev l (i+1)) s'.1 s'.2 (l.drop (i+1))=go (prev l i) q c (l.getD i z110::l.drop (i+1))∧_
      rw [ep]
      generalize hx:l.getD i z110=x
      rw [go]
      have hb1:=A2x (prev l i) q x.f0 x.f1 q0 q1
      have hb2:=A2x (prev l i) c x.f0 x.f1 c0 c1
      -- the round's last part
      have e3:Form x→∀ (a b:Int),0≤a→a≤1000000000000000→0≤b→b≤1000000000000000→∀ k,C7.j3 (k+1) l a b (i:Int) x.f0 x.f1 x.f2 x.f3 x.f4=if Amt (a+x.f3)∧Amt (b+x.f4) then C7.l0 k l (a+x.f3) (b+x.f4) ((i+1:Nat):Int) else some false:=by
       intro hf a b a0 a1 b0 b1 k
       unfold Form at hf
       simp only [C7.j3]
       rw [S8 (a+x.f3) (by omega) (by omega),S8 (b+x.f4) (by omega) (by omega),J5 hi (by omega),B1l,B1l,Option.bind_some,Option.bind_some]
       by_cases h1:Amt (a+x.f3)
       · by_cases h2:Amt (b+x.f4)
         · rw [if_pos (decide_eq_true h1),if_pos (decide_eq_true h2),if_pos ⟨h1,h2⟩]
         · rw [if_pos (decide_eq_true h1),if_neg (by rw [decide_eq_false h2];decide),if_neg fun g=>h2 g.2]
       · rw [if_neg (by rw [decide_eq_false h1];decide),if_neg fun g=>h1 g.1]
      have e2:∀ k (t:Bool),C7.j2 (k+1) l q c (i:Int) t x.f0 x.f1 x.f2 x.f3 x.f4=if t=true then C7.j3 k l 0 0 (i:Int) x.f0 x.f1 x.f2 x.f3 x.f4 else C7.j3 k l q c (i:Int) x.f0 x.f1 x.f2 x.f3 x.f4:=fun k t=>by simp only [C7.j2]
      -- what the round comes to, once the pair's own amounts are known
      have fin:∀ a b,Form x→a=base (prev l i) q x.f0 x.f1→b=base (prev l i) c x.f0 x.f1→Aft (prev l i) x→(∀ r,Ev (fun k=>C7.j3 k l a b (i:Int) x.f0 x.f1 x.f2 x.f3 x.f4) r→Ev (fun k=>C7.l0 k l q c (i:Int)) r)→
       (Ev (fun k=>C7.l0 k l q c (i:Int)) (if Form x∧Aft (prev l i) x then (if Amt (base (prev l i) q x.f0 x.f1+x.f3)∧Amt (base (prev l i) c x.f0 x.f1+x.f4) then go (some x) (base (prev l i) q x.f0 x.f1+x.f3) (base (prev l i) c x.f0 x.f1+x.f4) (l.drop (i+1)) else false) else false)) ∨
       ∃ s':Int×Int,(0≤s'.1∧s'.1≤1000000000000000∧0≤s'.2∧s'.2≤1000000000000000)∧go (some x) s'.1 s'.2 (l.drop (i+1))=(if Form x∧Aft (prev l i) x then (if Amt (base (prev l i) q x.f0 x.f1+x.f3)∧Amt (base (prev l i) c x.f0 x.f1+x.f4) then go (some x) (base (prev l i) q x.f0 x.f1+x.f3) (base (prev l i) c x.f0 x.f1+x.f4) (l.drop (i+1)) else false) else false) ∧
        ∀ r,Ev (fun k=>C7.l0 k l s'.1 s'.2 ((i+1:Nat):Int)) r→Ev (fun k=>C7.l0 k l q c (i:Int)) r:=by
       rintro a b hf rfl rfl ha step
       rw [if_pos ⟨hf,ha⟩]
       have hf':=hf
       unfold Form at hf'
       by_cases hm:Amt (base (prev l i) q x.f0 x.f1+x.f3)∧Amt (base (prev l i) c x.f0 x.f1+x.f4)
       · rw [if_pos hm]
         refine .inr ⟨(base (prev l i) q x.f0 x.f1+x.f3,base (prev l i) c x.f0 x.f1+x.f4),⟨by show 0≤_+x.f3;omega,hm.1.2,by show 0≤_+x.f4;omega,hm.2.2⟩,rfl,fun r hr=>?_⟩
         refine step r (Ev.step (fun k=>?_) hr)
         show C7.j3 (k+1) l _ _ (i:Int) x.f0 x.f1 x.f2 x.f3 x.f4=_
         rw [e3 hf _ _ hb1.1 hb1.2 hb2.1 hb2.2 k,if_pos hm]
       · rw [if_neg hm]
         refine .inl (step false (I2 fun k=>?_))
         show C7.j3 (k+1) l _ _ (i:Int) x.f0 x.f1 x.f2 x.f3 x.f4=_
         rw [e3 hf _ _ hb1.1 hb1.2 hb2.1 hb2.2 k,if_neg hm]
      by_cases hf:Form x
      · by_cases h0:0<i
        · have e0:prev l i=some (l.getD (i-1) z110):=by unfold prev;rw [if_pos h0]
          generalize hy:l.getD (i-1) z110=y at e0
          have eA:∀ k,C7.l0 (k+1) l q c (i:Int)=C7.j1 k l q c (i:Int) (!decide (Lt y x)) x.f0 x.f1 x.f2 x.f3 x.f4:=by
           intro k
           simp only [C7.l0]
           rw [if_pos (by omega),if_pos (by omega),A2f hi h0 (by omega)]
           simp only [rdL,hx,hy,A3f,A2a,Option.bind_some,decide_eq_true_iff]
           rw [if_pos hf,if_pos (by omega),if_pos (by omega),if_pos (by omega)]
          by_cases hl:Lt y x
          · have ha:Aft (prev l i) x:=by rw [e0];exact hl
            have eB:∀ k,C7.j1 (k+1) l q c (i:Int) false x.f0 x.f1 x.f2 x.f3 x.f4=C7.j2 k l q c (i:Int) (!decide (y.f0=x.f0∧y.f1=x.f1)) x.f0 x.f1 x.f2 x.f3 x.f4:=by
             intro k
             simp only [C7.j1]
             rw [if_neg (by decide),if_neg (by omega),A2f hi h0 (by omega),if_pos (by omega),if_pos (by omega)]
             simp only [rdL,hy]
             by_cases k1:x.f0=y.f0
             · rw [if_pos k1]
               by_cases k2:x.f1=y.f1
               · rw [decide_eq_true (show y.f0=x.f0∧y.f1=x.f1 from ⟨k1.symm,k2.symm⟩),k2]
                 simp
               · rw [decide_eq_false (show ¬(y.f0=x.f0∧y.f1=x.f1) from fun g=>k2 g.2.symm),show (x.f1 != y.f1)=true by simpa using k2]
                 rfl
             · rw [if_neg k1,decide_eq_false (show ¬(y.f0=x.f0∧y.f1=x.f1) from fun g=>k1 g.1.symm)]
               rfl
            by_cases hk:y.f0=x.f0∧y.f1=x.f1
            · refine fin q c hf (by rw [e0];simp only [base];rw [if_pos hk]) (by rw [e0];simp only [base];rw [if_pos hk]) ha fun r hr=>?_
              refine Ev.step (fun k=>by rw [eA k,decide_eq_true hl]) (Ev.step (fun k=>by show C7.j1 (k+1) l q c (i:Int) false x.f0 x.f1 x.f2 x.f3 x.f4=_;rw [eB k,decide_eq_true hk]) (Ev.step (fun k=>by show C7.j2 (k+1) l q c (i:Int) false x.f0 x.f1 x.f2 x.f3 x.f4=_;rw [e2 k,if_neg (by decide)]) hr))
            · refine fin 0 0 hf (by rw [e0];simp only [base];rw [if_neg hk]) (by rw [e0];simp only [base];rw [if_neg hk]) ha fun r hr=>?_
              refine Ev.step (fun k=>by rw [eA k,decide_eq_true hl]) (Ev.step (fun k=>by show C7.j1 (k+1) l q c (i:Int) false x.f0 x.f1 x.f2 x.f3 x.f4=_;rw [eB k,decide_eq_false hk]) (Ev.step (fun k=>by show C7.j2 (k+1) l q c (i:Int) true x.f0 x.f1 x.f2 x.f3 x.f4=_;rw [e2 k,if_pos rfl]) hr))
          · have ha:¬(Form x∧Aft (prev l i) x):=by rw [e0];exact fun g=>hl g.2
            rw [if_neg ha]
            refine .inl (Ev.step (fun k=>by rw [eA k,decide_eq_false hl]) (I2 fun k=>?_))
            show C7.j1 (k+1) l q c (i:Int) true x.f0 x.f1 x.f2 x.f3 x.f4=_
            simp only [C7.j1]
            rw [if_pos trivial]
        · have e0:prev l i=none:=by unfold prev;rw [if_neg h0]
          have ha:Aft (prev l i) x:=by rw [e0];exact trivial
          have hz:(i:Int)=0:=by omega
          refine fin 0 0 hf (by rw [e0];rfl) (by rw [e0];rfl) ha fun r hr=>?_
          refine Ev.step (f:=fun k=>C7.j1 k l q c (i:Int) false x.f0 x.f1 x.f2 x.f3 x.f4) (fun k=>?_) (Ev.step (f:=fun k=>C7.j2 k l q c (i:Int) true x.f0 x.f1 x.f2 x.f3 x.f4) (fun k=>?_) (Ev.step (fun k=>by show C7.j2 (k+1) l q c (i:Int) true x.f0 x.f1 x.f2 x.f3 x.f4=_;rw [e2 k,if_pos rfl]) hr))
          · show C7.l0 (k+1) l q c (i:Int)=_
            simp only [C7.l0]
            rw [if_pos (by omega),if_pos (by omega)]
            simp only [rdL,hx,A3f,Option.bind_some,decide_eq_true_iff]
            rw [if_pos hf,if_neg (by omega)]
          · show C7.j1 (k+1) l q c (i:Int) false x.f0 x.f1 x.f2 x.f3 x.f4=_
            simp only [C7.j1]
            rw [if_neg (by decide),if_pos hz]
      · rw [if_neg (fun g=>hf g.1)]
        refine .inl (Ev.step (f:=fun k=>C7.j1 k l q c (i:Int) true x.f0 x.f1 x.f2 x.f3 x.f4) (fun k=>?_) (I2 fun k=>?_))
        · show C7.l0 (k+1) l q c (i:Int)=_
          simp only [C7.l0]
          rw [if_pos (by omega),if_pos (by omega)]
          simp only [rdL,hx,A3f,Option.bind_some,decide_eq_true_iff]
          rw [if_neg hf]
        · show C7.j1 (k+1) l q c (i:Int) true x.f0 x.f1 x.f2 x.f3 x.f4=_
          simp only [C7.j1]
          rw [if_pos trivial]) l.length 0 (0,0) (by omega) (by omega) ⟨by decide,by decide,by decide,by decide⟩
   refine Ev.congr (fun k=>by rw [if_neg hn];rfl) h
end Go.Proofs.YtmfgajbkcnlkcaaGreat.E1
namespace Go.Proofs.YtmfgajbkcnlkcaaGreat.E2
open Go Go.RowKit Go.Proofs.YtmfgajbkcnlkcaaGreat.P Go.Proofs.YtmfgajbkcnlkcaaGreatW.PrintWords Go.Proofs.YtmfgajbkcnlkcaaGreatW.PrintLast Go.Proofs.YtmfgajbkcnlkcaaGreat.EV Go.Proofs.YtmfgajbkcnlkcaaGreat.I1 Go.Proofs.YtmfgajbkcnlkcaaGreat.N1 Go.Proofs.YtmfgajbkcnlkcaaGreat.E1
def Own (a b:Int) (x:SL):Bool:=decide (x.f0=a∧x.f1=b)
def ofL (a b:Int) (l:List SL):List SL:=l.filter (Own a b)
def outL (a b:Int) (l:List SL):List SL:=l.filter fun x=>!Own a b x
theorem of_len (a b:Int) (l:List SL):(ofL a b l).length≤l.length:=List.length_filter_le _ _
theorem C6u (a b:Int) (l:List SL):(outL a b l).length≤l.length:=List.length_filter_le _ _
theorem split_s (l:List SL) (a b:Int) (hl:l.length≤1048577):Ev (fun k=>I6.f k l a b) (ofL a b l,outL a b l):=by
 unfold I6.f
 have h:=S1 (fun k (s:List SL×List SL) i=>I6.l0 k l a b s.1 s.2 i) l.length (fun i s=>(s.1++ofL a b (l.drop i),s.2++outL a b (l.drop i))) (fun i s=>s.1.length≤i∧s.2.length≤i)
  (fun s _=>I2 fun k=>by
    simp only [I6.l0]
    rw [if_neg (by omega),List.drop_length]
    simp [ofL,outL])
  (fun i s hi hs=>by
    obtain ⟨p,q⟩:=s
    simp only at hs
    have e:l.drop i=l.getD i z110::l.drop (i+1):=L9 z110 l i hi
    by_cases h1:(l.getD i z110).f0=a∧(l.getD i z110).f1=b
    · refine .inr ⟨(p++[l.getD i z110],q),⟨by show (p++[_]).length≤i+1;rw [List.length_append,List.length_singleton];omega,Nat.le_succ_of_le hs.2⟩,?_,fun k=>?_⟩
      · have hO:Own a b (l.getD i z110)=true:=decide_eq_true h1
        rw [e]
        simp only [ofL,outL]
        rw [List.filter_cons_of_pos hO,List.filter_cons_of_neg (by rw [hO];decide),List.append_assoc]
        rfl
      · show I6.l0 (k+1) l a b p q (i:Int)=_
        simp only [I6.l0]
        rw [if_pos (by omega),if_pos (by omega),J5 hi (by omega)]
        simp only [rdL]
        rw [if_pos h1.1,if_pos h1.2,if_pos (by omega)]
    · have step:∀ k,I6.l0 (k+1) l a b p q (i:Int)=I6.l0 k l a b p (q++[l.getD i z110]) ((i+1:Nat):Int):=fun k=>by
       simp only [I6.l0]
       rw [if_pos (by omega),if_pos (by omega),J5 hi (by omega)]
       simp only [rdL]
       by_cases h2:(l.getD i z110).f0=a
       · rw [if_pos h2,if_neg fun h3=>h1 ⟨h2,h3⟩,if_pos (by omega)]
       · rw [if_neg h2,if_pos (by omega)]
      refine .inr ⟨(p,q++[l.getD i z110]),⟨Nat.le_succ_of_le hs.1,by show (q++[_]).length≤i+1;rw [List.length_append,List.length_singleton];omega⟩,?_,step⟩
      have hO:Own a b (l.getD i z110)=false:=decide_eq_false h1
      rw [e]
      simp only [ofL,outL]
      rw [List.filter_cons_of_neg (by rw [hO];decide),List.filter_cons_of_pos (by rw [hO];decide),List.append_assoc]
      rfl) l.length 0 ([],[]) (by omega) (by omega) ⟨Nat.le_refl _,Nat.le_refl _⟩
 exact h
theorem qty_s (l:List SL) (hl:l.length≤1048577):Ev (fun k=>N7.f k l) (A9.sum3 l 0):=by
 unfold N7.f
 have h:=S1 (fun k (s:Int) i=>N7.l0 k l s i) l.length (fun i s=>A9.sum3 (l.drop i) s) (fun _ _=>True)
  (fun s _=>I2 fun k=>by
    simp only [N7.l0]
    rw [if_neg (by omega),List.drop_length]
    rfl)
  (fun i s hi _=>.inr ⟨wrap64 (s+(l.getD i z110).f3),trivial,by rw [L9 z110 l i hi];rfl,fun k=>by
    show N7.l0 (k+1) l s (i:Int)=_
    simp only [N7.l0]
    rw [if_pos (by omega),if_pos (by omega),J5 hi (by omega),rdL]⟩) l.length 0 0 (by omega) (by omega) trivial
 exact h
theorem D1u (l:List SL) (hl:l.length≤1048577):Ev (fun k=>O9.f k l) (A9.sum4 l 0):=by
 unfold O9.f
 have h:=S1 (fun k (s:Int) i=>O9.l0 k l s i) l.length (fun i s=>A9.sum4 (l.drop i) s) (fun _ _=>True)
  (fun s _=>I2 fun k=>by
    simp only [O9.l0]
    rw [if_neg (by omega),List.drop_length]
    rfl)
  (fun i s hi _=>.inr ⟨wrap64 (s+(l.getD i z110).f4),trivial,by rw [L9 z110 l i hi];rfl,fun k=>by
    show O9.l0 (k+1) l s (i:Int)=_
    simp only [O9.l0]
    rw [if_pos (by omega),if_pos (by omega),J5 hi (by omega),rdL]⟩) l.length 0 0 (by omega) (by omega) trivial
 exact h
theorem sums_i (l:List SL) (hl:l.length≤1048577):Ev (fun k=>H3.f k l) (A9.sum3 l 0,A9.sum4 l 0):=by
 unfold H3.f
 have h:=S1 (fun k (s:Int×Int) i=>H3.l0 k s.1 s.2 l (l.length:Int) i) l.length (fun i s=>(A9.sum3 (l.drop i) s.1,A9.sum4 (l.drop i) s.2)) (fun _ _=>True)
  (fun s _=>I2 fun k=>by
    simp only [H3.l0]
    rw [if_neg (by omega),List.drop_length]
    rfl)
  (fun i s hi _=>.inr ⟨(wrap64 (s.1+(l.getD i z110).f3),wrap64 (s.2+(l.getD i z110).f4)),trivial,by rw [L9 z110 l i hi];rfl,fun k=>by
    show H3.l0 (k+1) s.1 s.2 l (l.length:Int) (i:Int)=_
    simp only [H3.l0]
    rw [if_pos (by omega),if_pos (by omega),if_pos (by omega),J5 hi (by omega),rdL]⟩) l.length 0 (0,0) (by omega) (by omega) trivial
 exact h
end Go.Proofs.YtmfgajbkcnlkcaaGreat.E2
