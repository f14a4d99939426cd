/- What the law FnExactBookMove leans on, cut out of this repo's own texts by a program of this repo: plain functions, the walks that tie the Go calls to them, the law over lists and numbers, and the row. -/
import Derived.Test.YtmfgajbkcnlkcaaGreatZFnExactBookMove2
namespace Go.Proofs.YtmfgajbkcnlkcaaGreat.P
end Go.Proofs.YtmfgajbkcnlkcaaGreat.P
namespace Go.Proofs.YtmfgajbkcnlkcaaGreat.AI
end Go.Proofs.YtmfgajbkcnlkcaaGreat.AI
namespace Go.Proofs.YtmfgajbkcnlkcaaGreat.AI
open Go Go.RowKit Go.Proofs.YtmfgajbkcnlkcaaGreatW.PrintWords Go.Proofs.YtmfgajbkcnlkcaaGreat.P
set_option linter.unusedVariables false
set_option linter.all false
set_option maxRecDepth 100000
set_option maxHeartbeats 4000000
noncomputable section
def o28 (l0_0:List S80) (l0_1:List S84) (l0_2:List S106) (l0_3:List S110) (l0_4:List S60) (r:Bool):Out Rw:=⟨[.c (.sc (.b r))],[.rows 0 (.e80 l0_0),.rows 0 (.e84 l0_1),.rows 0 (.e106 l0_2),.rows 0 (.e110 l0_3),.rows 0 (.e60 l0_4)]⟩
def Q28:Mean Rw:=fun k a h Z K=>match a,h with
 | [.w (.ag [.rw 0,.rw 1,.rw 2,.rw 3,.rw 4,.sc (.i .i64 a0_5)])],[.rows 0 (.e80 l0_0),.rows 0 (.e84 l0_1),.rows 0 (.e106 l0_2),.rows 0 (.e110 l0_3),.rows 0 (.e60 l0_4)]=>(F5.f k l0_0 l0_1 l0_2 l0_3 l0_4 a0_5).bind fun r=>K (o28 l0_0 l0_1 l0_2 l0_3 l0_4 r)
 | _,_=>none
def q28:Cal Rw:=⟨28,false,Q28⟩
def O28:List (Cal Rw):=[q76,q77,q78,q79,q80,q56,q81,q82,q57,q62]
def C3c:Nat→St Rw→Option (Out Rw):=fun k st=>match st with
 | ⟨91,5,6,[(1,.pt 5 0),(48,.w (.c (.sc (.b x48))))],[(0,.rows 0 (.e80 l0_0)),(1,.rows 0 (.e84 l0_1)),(2,.rows 0 (.e106 l0_2)),(3,.rows 0 (.e110 l0_3)),(4,.rows 0 (.e60 l0_4)),(5,.box 36 [.rw 0,.rw 1,.rw 2,.rw 3,.rw 4,.sc (.i .i64 b5_5)])]⟩=>(F5.j0 k x48 l0_0 l0_1 l0_2 l0_3 l0_4 b5_5).bind fun r=>some (o28 l0_0 l0_1 l0_2 l0_3 l0_4 r)
 | _=>none
def C3b:Nat→St Rw→Option (Out Rw):=fun k st=>match st with
 | ⟨91,5,6,[(1,.pt 5 0),(3,.w (.c (.sc (.i .i64 x3))))],[(0,.rows 0 (.e80 l0_0)),(1,.rows 0 (.e84 l0_1)),(2,.rows 0 (.e106 l0_2)),(3,.rows 0 (.e110 l0_3)),(4,.rows 0 (.e60 l0_4)),(5,.box 36 [.rw 0,.rw 1,.rw 2,.rw 3,.rw 4,.sc (.i .i64 b5_5)])]⟩=>(F5.l0 k x3 l0_0 l0_1 l0_2 l0_3 l0_4 b5_5).bind fun r=>some (o28 l0_0 l0_1 l0_2 l0_3 l0_4 r)
 | _=>none
def K28:List (Cut Rw):=[⟨[true,false,true],[1,48],C3c⟩,⟨[false,true,false,true,true],[1,3],C3b⟩]
theorem D4z:HH Tryz.prog O28 K28 Tryz.f28 [true,false,true] C3c:=fun k st out h=>by
 unfold C3c at h;split at h
 · rename_i x48 l0_0 l0_1 l0_2 l0_3 l0_4 b5_5
   exact Lo.of (b:=(if x48=true then (some (o28 l0_0 l0_1 l0_2 l0_3 l0_4 false)) else ((F5.l0 k 0 l0_0 l0_1 l0_2 l0_3 l0_4 b5_5).bind fun r=>some (o28 l0_0 l0_1 l0_2 l0_3 l0_4 r)))) (by kernel_rfl) (by rw [F5.j0];exact lo_) _ h
 · cases h
theorem D4y:HH Tryz.prog O28 K28 Tryz.f28 [false,true,false,true,true] C3b:=fun k st out h=>by
 unfold C3b at h;split at h
 · rename_i x3 l0_0 l0_1 l0_2 l0_3 l0_4 b5_5
   exact Lo.of (b:=(if x3<(l0_4.length:Int) then (if 0≤x3 then (if x3<(l0_4.length:Int) then ((C9.f k l0_0 (B7 l0_4 x3).f1).bind fun r8=>(if r8=1 then ((C9.f k l0_0 (B7 l0_4 x3).f2).bind fun r9=>(if r9=1 then ((D6.f k l0_1 (B7 l0_4 x3).f3).bind fun r10=>(if r10=2 then ((D6.f k l0_1 (B7 l0_4 x3).f5).bind fun r11=>(if r11=1 then ((F5.l0 k (RowKit.wrap64 (x3+1)) l0_0 l0_1 l0_2 l0_3 l0_4 b5_5).bind fun r=>some (o28 l0_0 l0_1 l0_2 l0_3 l0_4 r)) else (some (o28 l0_0 l0_1 l0_2 l0_3 l0_4 false)))) else (some (o28 l0_0 l0_1 l0_2 l0_3 l0_4 false)))) else (some (o28 l0_0 l0_1 l0_2 l0_3 l0_4 false)))) else (some (o28 l0_0 l0_1 l0_2 l0_3 l0_4 false)))) else none) else none) else (some (o28 l0_0 l0_1 l0_2 l0_3 l0_4 true)))) (by kernel_rfl) (by rw [F5.l0];exact lo_) _ h
 · cases h
theorem d28:G8 Tryz.prog q28:=fn_d (O:=O28) (cs:=K28) (C0 d76 (C0 d77 (C0 d78 (C0 d79 (C0 d80 (C0 d56 (C0 d81 (C0 d82 (C0 d57 (C0 d62 nil_)))))))))) mixed Tryz.func28 (C0 (fun st=>by show C3c 0 st=none;unfold C3c;split<;>rfl) (C0 (fun st=>by show C3b 0 st=none;unfold C3b;split<;>rfl) nil_)) (C0 D4z (C0 D4y nil_)) fun k a h Z K z e=>by
 unfold Q28 at e;split at e
 · rename_i a0_5 l0_0 l0_1 l0_2 l0_3 l0_4
   exact ent e (Lo.of (b:=((G6.f k l0_0).bind fun r7=>(if r7=true then ((H9.f k l0_1).bind fun r8=>(if r8=true then ((I4.f k l0_2).bind fun r9=>(if r9=true then ((C7.f k l0_3).bind fun r10=>(if r10=true then ((J2.f k l0_4).bind fun r11=>(if r11=true then ((N9.f a0_5 0 1000000000).bind fun r12=>(if r12=true then ((F6.f k l0_0 l0_1 l0_2 l0_3 l0_4 a0_5).bind fun r13=>(if r13=true then ((D4.f k l0_0 l0_1 l0_2 l0_3 l0_4 a0_5).bind fun r14=>((F5.j0 k (!decide (r14=true)) l0_0 l0_1 l0_2 l0_3 l0_4 a0_5).bind fun r=>some (o28 l0_0 l0_1 l0_2 l0_3 l0_4 r))) else ((F5.j0 k true l0_0 l0_1 l0_2 l0_3 l0_4 a0_5).bind fun r=>some (o28 l0_0 l0_1 l0_2 l0_3 l0_4 r)))) else ((F5.j0 k true l0_0 l0_1 l0_2 l0_3 l0_4 a0_5).bind fun r=>some (o28 l0_0 l0_1 l0_2 l0_3 l0_4 r)))) else ((F5.j0 k true l0_0 l0_1 l0_2 l0_3 l0_4 a0_5).bind fun r=>some (o28 l0_0 l0_1 l0_2 l0_3 l0_4 r)))) else ((F5.j0 k true l0_0 l0_1 l0_2 l0_3 l0_4 a0_5).bind fun r=>some (o28 l0_0 l0_1 l0_2 l0_3 l0_4 r)))) else ((F5.j0 k true l0_0 l0_1 l0_2 l0_3 l0_4 a0_5).bind fun r=>some (o28 l0_0 l0_1 l0_2 l0_3 l0_4 r)))) else ((F5.j0 k true l0_0 l0_1 l0_2 l0_3 l0_4 a0_5).bind fun r=>some (o28 l0_0 l0_1 l0_2 l0_3 l0_4 r)))) else ((F5.j0 k true l0_0 l0_1 l0_2 l0_3 l0_4 a0_5).bind fun r=>some (o28 l0_0 l0_1 l0_2 l0_3 l0_4 r))))) (by kernel_rfl) (by unfold F5.f;exact lo_))
 · cases e
def o30 (l0_0:List S80) (l0_1:List S84) (l0_2:List S106) (l0_3:List S110) (l0_4:List S60) (r:(List (S80))×(List (S84))×(List (S106))×(List (S110))×(List (S60))×Int):Out Rw:=⟨[.ag [.rw 5,.rw 6,.rw 7,.rw 8,.rw 9,.sc (.i .i64 r.2.2.2.2.2)]],[.rows 0 (.e80 l0_0),.rows 0 (.e84 l0_1),.rows 0 (.e106 l0_2),.rows 0 (.e110 l0_3),.rows 0 (.e60 l0_4),.rows 2 (.e80 r.1),.rows 2 (.e84 r.2.1),.rows 2 (.e106 r.2.2.1),.rows 2 (.e110 r.2.2.2.1),.rows 2 (.e60 r.2.2.2.2.1)]⟩
def Q30:Mean Rw:=fun k a h Z K=>match a,h with
 | [.w (.ag [.rw 0,.rw 1,.rw 2,.rw 3,.rw 4,.sc (.i .i64 a0_5)])],[.rows 0 (.e80 l0_0),.rows 0 (.e84 l0_1),.rows 0 (.e106 l0_2),.rows 0 (.e110 l0_3),.rows 0 (.e60 l0_4)]=>(D5.f l0_0 l0_1 l0_2 l0_3 l0_4 a0_5).bind fun r=>K (o30 l0_0 l0_1 l0_2 l0_3 l0_4 r)
 | _,_=>none
def q30:Cal Rw:=⟨30,false,Q30⟩
def O30:List (Cal Rw):=[]
def K30:List (Cut Rw):=[]
theorem d30:G8 Tryz.prog q30:=fn_d (O:=O30) (cs:=K30) nil_ mixed Tryz.func30 nil_ nil_ fun k a h Z K z e=>by
 unfold Q30 at e;split at e
 · rename_i a0_5 l0_0 l0_1 l0_2 l0_3 l0_4
   exact ent e (Lo.of (b:=(if [].length+l0_0.length<8796093022209 then (if [].length+l0_1.length<8796093022209 then (if [].length+l0_2.length<5864062014806 then (if [].length+l0_3.length<3518437208884 then (if [].length+l0_4.length<2199023255553 then (some (o30 l0_0 l0_1 l0_2 l0_3 l0_4 ([]++l0_0,[]++l0_1,[]++l0_2,[]++l0_3,[]++l0_4,a0_5))) else none) else none) else none) else none) else none)) (by kernel_rfl) (by unfold D5.f;exact lo_))
 · cases e
def o68 (r:(List (S93))):Out Rw:=⟨[.c (.rw 0)],[.rows 2 (.e93 r)]⟩
def Q68:Mean Rw:=fun k a h Z K=>match a,h with
 | [.w (.c (.sc (.i .i64 a0))),.w (.c (.sc (.i .i64 a1))),.w (.c (.sc (.i .i64 a2))),.w (.c (.sc (.i .i64 a3)))],[]=>(Y7.f a0 a1 a2 a3).bind fun r=>K (o68 r)
 | _,_=>none
def q68:Cal Rw:=⟨68,false,Q68⟩
def O68:List (Cal Rw):=[]
def K68:List (Cut Rw):=[]
theorem d68:G8 Tryz.prog q68:=fn_d (O:=O68) (cs:=K68) nil_ mixed Tryz.func68 nil_ nil_ fun k a h Z K z e=>by
 unfold Q68 at e;split at e
 · rename_i a0 a1 a2 a3
   exact ent e (Lo.of (b:=(some (o68 ([(⟨a0,a2,RowKit.wrap64 (0-a3)⟩:S93)]++[(⟨a1,a2,a3⟩:S93)])))) (by kernel_rfl) (by unfold Y7.f;exact lon_))
 · cases e
def o113 (l0_0:List S80) (l0_1:List S84) (l0_2:List S106) (l0_3:List S110) (l0_4:List S60) (r:List Int):Out Rw:=⟨[.c (.rw 5)],[.rows 0 (.e80 l0_0),.rows 0 (.e84 l0_1),.rows 0 (.e106 l0_2),.rows 0 (.e110 l0_3),.rows 0 (.e60 l0_4),.rows 2 (.eI r)]⟩
def Q113:Mean Rw:=fun k a h Z K=>match a,h with
 | [.w (.ag [.rw 0,.rw 1,.rw 2,.rw 3,.rw 4,.sc (.i .i64 a0_5)])],[.rows 0 (.e80 l0_0),.rows 0 (.e84 l0_1),.rows 0 (.e106 l0_2),.rows 0 (.e110 l0_3),.rows 0 (.e60 l0_4)]=>(M6.f k l0_0 l0_1 l0_2 l0_3 l0_4 a0_5).bind fun r=>K (o113 l0_0 l0_1 l0_2 l0_3 l0_4 r)
 | _,_=>none
def q113:Cal Rw:=⟨113,false,Q113⟩
def O113:List (Cal Rw):=[]
def B3d:Nat→St Rw→Option (Out Rw):=fun k st=>match st with
 | ⟨30,5,7,[(1,.pt 5 0),(3,.w (.c (.rw 6))),(4,.w (.c (.sc (.i .i64 x4))))],[(0,.rows 0 (.e80 l0_0)),(1,.rows 0 (.e84 l0_1)),(2,.rows 0 (.e106 l0_2)),(3,.rows 0 (.e110 l0_3)),(4,.rows 0 (.e60 l0_4)),(5,.box 36 [.rw 0,.rw 1,.rw 2,.rw 3,.rw 4,.sc (.i .i64 b5_5)]),(6,.rows 2 (.eI y6))]⟩=>(M6.l0 k y6 x4 l0_0 l0_1 l0_2 l0_3 l0_4 b5_5).bind fun r=>some (o113 l0_0 l0_1 l0_2 l0_3 l0_4 r)
 | _=>none
def K113:List (Cut Rw):=[⟨[false,true,false,true,true],[1,3,4],B3d⟩]
theorem D1k:HH Tryz.prog O113 K113 Tryz.f113 [false,true,false,true,true] B3d:=fun k st out h=>by
 unfold B3d at h;split at h
 · rename_i x4 l0_0 l0_1 l0_2 l0_3 l0_4 b5_5 y6
   exact Lo.of (b:=(if x4<(l0_0.length:Int) then (if 0≤x4 then (if x4<(l0_0.length:Int) then (if (M2 l0_0 x4).f1=1 then ((M6.l0 k y6 (RowKit.wrap64 (x4+1)) l0_0 l0_1 l0_2 l0_3 l0_4 b5_5).bind fun r=>some (o113 l0_0 l0_1 l0_2 l0_3 l0_4 r)) else (if 0≤x4 then (if x4<(l0_0.length:Int) then (if y6.length+1<17592186044417 then ((M6.l0 k (y6++([(M2 l0_0 x4).f0])) (RowKit.wrap64 (x4+1)) l0_0 l0_1 l0_2 l0_3 l0_4 b5_5).bind fun r=>some (o113 l0_0 l0_1 l0_2 l0_3 l0_4 r)) else none) else none) else none)) else none) else none) else (some (o113 l0_0 l0_1 l0_2 l0_3 l0_4 y6)))) (by kernel_rfl) (by rw [M6.l0];exact lo_) _ h
 · cases h
theorem d113:G8 Tryz.prog q113:=fn_d (O:=O113) (cs:=K113) nil_ mixed Tryz.func113 (C0 (fun st=>by show B3d 0 st=none;unfold B3d;split<;>rfl) nil_) (C0 D1k nil_) fun k a h Z K z e=>by
 unfold Q113 at e;split at e
 · rename_i a0_5 l0_0 l0_1 l0_2 l0_3 l0_4
   exact ent e (Lo.of (b:=((M6.l0 k ([]) 0 l0_0 l0_1 l0_2 l0_3 l0_4 a0_5).bind fun r=>some (o113 l0_0 l0_1 l0_2 l0_3 l0_4 r))) (by kernel_rfl) (by unfold M6.f;exact lo_))
 · cases e
def o148 (l0:List S93) (r:Bool):Out Rw:=⟨[.c (.sc (.b r))],[.rows 0 (.e93 l0)]⟩
def Q148:Mean Rw:=fun k a h Z K=>match a,h with
 | [.w (.c (.rw 0))],[.rows 0 (.e93 l0)]=>(H2.f k l0).bind fun r=>K (o148 l0 r)
 | _,_=>none
def q148:Cal Rw:=⟨148,false,Q148⟩
def O148:List (Cal Rw):=[q29,q122]
def B2m:Nat→St Rw→Option (Out Rw):=fun k st=>match st with
 | ⟨38,1,1,[(0,.w (.c (.rw 0))),(3,.w (.c (.sc (.i .i64 x3))))],[(0,.rows 0 (.e93 l0))]⟩=>(H2.l0 k l0 x3).bind fun r=>some (o148 l0 r)
 | _=>none
def K148:List (Cut Rw):=[⟨[false,true,false,true,true],[0,3],B2m⟩]
theorem D0t:HH Tryz.prog O148 K148 Tryz.f148 [false,true,false,true,true] B2m:=fun k st out h=>by
 unfold B2m at h;split at h
 · rename_i x3 l0
   exact Lo.of (b:=(if x3<(l0.length:Int) then (if 0≤x3 then (if x3<(l0.length:Int) then ((I3.f (K2 l0 x3).f0).bind fun r3=>(if r3=true then (if 0≤x3 then (if x3<(l0.length:Int) then ((I3.f (K2 l0 x3).f1).bind fun r4=>(if r4=true then (if 0≤x3 then (if x3<(l0.length:Int) then ((M4.f (K2 l0 x3).f2).bind fun r5=>(if r5=true then ((H2.l0 k l0 (RowKit.wrap64 (x3+1))).bind fun r=>some (o148 l0 r)) else (some (o148 l0 false)))) else none) else none) else (some (o148 l0 false)))) else none) else none) else (some (o148 l0 false)))) else none) else none) else (some (o148 l0 true)))) (by kernel_rfl) (by rw [H2.l0];exact lo_) _ h
 · cases h
theorem d148:G8 Tryz.prog q148:=fn_d (O:=O148) (cs:=K148) (C0 d29 (C0 d122 nil_)) mixed Tryz.func148 (C0 (fun st=>by show B2m 0 st=none;unfold B2m;split<;>rfl) nil_) (C0 D0t nil_) fun k a h Z K z e=>by
 unfold Q148 at e;split at e
 · rename_i l0
   exact ent e (Lo.of (b:=(if (l0.length:Int)>160 then (some (o148 l0 false)) else ((H2.l0 k l0 0).bind fun r=>some (o148 l0 r)))) (by kernel_rfl) (by unfold H2.f;exact lo_))
 · cases e
def o149 (l0:List S93) (r:Bool):Out Rw:=⟨[.c (.sc (.b r))],[.rows 0 (.e93 l0)]⟩
def Q149:Mean Rw:=fun k a h Z K=>match a,h with
 | [.w (.c (.rw 0))],[.rows 0 (.e93 l0)]=>(H5.f k l0).bind fun r=>K (o149 l0 r)
 | _,_=>none
def q149:Cal Rw:=⟨149,false,Q149⟩
def O149:List (Cal Rw):=[q148]
def B2l:Nat→St Rw→Option (Out Rw):=fun k st=>match st with
 | ⟨41,1,1,[(0,.w (.c (.rw 0))),(3,.w (.c (.sc (.i .i64 x3))))],[(0,.rows 0 (.e93 l0))]⟩=>(H5.l0 k l0 x3).bind fun r=>some (o149 l0 r)
 | _=>none
def B2k:Nat→St Rw→Option (Out Rw):=fun k st=>match st with
 | ⟨41,1,1,[(0,.w (.c (.rw 0))),(3,.w (.c (.sc (.i .i64 x3)))),(4,.w (.c (.sc (.i .i64 x4)))),(5,.w (.c (.sc (.i .i64 x5))))],[(0,.rows 0 (.e93 l0))]⟩=>(H5.l1 k l0 x3 x4 x5).bind fun r=>some (o149 l0 r)
 | _=>none
def K149:List (Cut Rw):=[⟨[false,true,false,true,true],[0,3],B2l⟩,⟨[false,true,false,true,false,false,true,false,false,true,false,true,true],[0,3,4,5],B2k⟩]
theorem D0s:HH Tryz.prog O149 K149 Tryz.f149 [false,true,false,true,true] B2l:=fun k st out h=>by
 unfold B2l at h;split at h
 · rename_i x3 l0
   exact Lo.of (b:=(if x3<(l0.length:Int) then ((H5.l1 k l0 x3 0 0).bind fun r=>some (o149 l0 r)) else (some (o149 l0 true)))) (by kernel_rfl) (by rw [H5.l0];exact lo_) _ h
 · cases h
theorem D0r:HH Tryz.prog O149 K149 Tryz.f149 [false,true,false,true,false,false,true,false,false,true,false,true,true] B2k:=fun k st out h=>by
 unfold B2k at h;split at h
 · rename_i x3 x4 x5 l0
   exact Lo.of (b:=(if x5<(l0.length:Int) then (if 0≤x5 then (if x5<(l0.length:Int) then (if 0≤x3 then (if x3<(l0.length:Int) then (if (K2 l0 x5).f1=(K2 l0 x3).f1 then (if 0≤x5 then (if x5<(l0.length:Int) then ((H5.l1 k l0 x3 (RowKit.wrap64 (x4+(K2 l0 x5).f2)) (RowKit.wrap64 (x5+1))).bind fun r=>some (o149 l0 r)) else none) else none) else ((H5.l1 k l0 x3 x4 (RowKit.wrap64 (x5+1))).bind fun r=>some (o149 l0 r))) else none) else none) else none) else none) else (if x4=0 then ((H5.l0 k l0 (RowKit.wrap64 (x3+1))).bind fun r=>some (o149 l0 r)) else (some (o149 l0 false))))) (by kernel_rfl) (by rw [H5.l1];exact lo_) _ h
 · cases h
theorem d149:G8 Tryz.prog q149:=fn_d (O:=O149) (cs:=K149) (C0 d148 nil_) mixed Tryz.func149 (C0 (fun st=>by show B2l 0 st=none;unfold B2l;split<;>rfl) (C0 (fun st=>by show B2k 0 st=none;unfold B2k;split<;>rfl) nil_)) (C0 D0s (C0 D0r nil_)) fun k a h Z K z e=>by
 unfold Q149 at e;split at e
 · rename_i l0
   exact ent e (Lo.of (b:=((H2.f k l0).bind fun r2=>(if r2=true then ((H5.l0 k l0 0).bind fun r=>some (o149 l0 r)) else (some (o149 l0 false))))) (by kernel_rfl) (by unfold H5.f;exact lo_))
 · cases e
def o150 (r:Int×Bool):Out Rw:=⟨[.c (.sc (.i .i64 r.1)),.c (.sc (.b r.2))],[]⟩
def Q150:Mean Rw:=fun k a h Z K=>match a,h with
 | [.w (.c (.sc (.i .i64 a0))),.w (.c (.sc (.i .i64 a1)))],[]=>(Y8.f a0 a1).bind fun r=>K (o150 r)
 | _,_=>none
def q150:Cal Rw:=⟨150,false,Q150⟩
def O150:List (Cal Rw):=[q122,q167]
def K150:List (Cut Rw):=[]
theorem d150:G8 Tryz.prog q150:=fn_d (O:=O150) (cs:=K150) (C0 d122 (C0 d167 nil_)) mixed Tryz.func150 nil_ nil_ fun k a h Z K z e=>by
 unfold Q150 at e;split at e
 · rename_i a0 a1
   exact ent e (Lo.of (b:=((M4.f a0).bind fun r3=>(if r3=true then ((M4.f a1).bind fun r4=>((S9.f (RowKit.wrap64 (a0+a1)) r4).bind fun r5=>(some (o150 (r5.1,r5.2))))) else ((S9.f (RowKit.wrap64 (a0+a1)) false).bind fun r4=>(some (o150 (r4.1,r4.2))))))) (by kernel_rfl) (by unfold Y8.f;exact lo_))
 · cases e
def o151 (l0:List S106) (r:(List (S106))):Out Rw:=⟨[.c (.rw 1)],[.rows 0 (.e106 l0),.rows 2 (.e106 r)]⟩
def Q151:Mean Rw:=fun k a h Z K=>match a,h with
 | [.w (.c (.rw 0)),.w (.c (.sc (.i .i64 a1))),.w (.c (.sc (.i .i64 a2))),.w (.c (.sc (.i .i64 a3)))],[.rows 0 (.e106 l0)]=>(G2.f k l0 a1 a2 a3).bind fun r=>K (o151 l0 r)
 | _,_=>none
def q151:Cal Rw:=⟨151,false,Q151⟩
def O151:List (Cal Rw):=[q123]
def B2j:Nat→St Rw→Option (Out Rw):=fun k st=>match st with
 | ⟨68,1,3,[(0,.w (.c (.rw 0))),(1,.w (.c (.sc (.i .i64 x1)))),(2,.w (.c (.sc (.i .i64 x2)))),(9,.w (.c (.rw 1))),(10,.w (.c (.sc (.b x10)))),(11,.pt 2 0),(12,.w (.c (.sc (.i .i64 x12))))],[(0,.rows 0 (.e106 l0)),(1,.rows 2 (.e106 y1)),(2,.box 106 [.sc (.i .i64 b2_0),.sc (.i .i64 b2_1),.sc (.i .i64 b2_2)])]⟩=>(G2.l0 k l0 x1 x2 y1 x10 x12 b2_0 b2_1 b2_2).bind fun r=>some (o151 l0 r)
 | _=>none
def B2i:Nat→St Rw→Option (Out Rw):=fun k st=>match st with
 | ⟨68,1,4,[(0,.w (.c (.rw 0))),(1,.w (.c (.sc (.i .i64 x1)))),(2,.w (.c (.sc (.i .i64 x2)))),(9,.w (.c (.rw 1))),(10,.w (.c (.sc (.b x10)))),(11,.pt 2 0),(12,.w (.c (.sc (.i .i64 x12)))),(13,.pt 3 0),(42,.w (.c (.sc (.b x42))))],[(0,.rows 0 (.e106 l0)),(1,.rows 2 (.e106 y1)),(2,.box 106 [.sc (.i .i64 b2_0),.sc (.i .i64 b2_1),.sc (.i .i64 b2_2)]),(3,.box 106 [.sc (.i .i64 b3_0),.sc (.i .i64 b3_1),.sc (.i .i64 b3_2)])]⟩=>(G2.j1 k l0 x1 x2 y1 x10 x12 x42 b2_0 b2_1 b2_2 b3_0 b3_1 b3_2).bind fun r=>some (o151 l0 r)
 | _=>none
def K151:List (Cut Rw):=[⟨[false,true,false,true,true,true,true],[0,1,2,9,10,11,12],B2j⟩,⟨[true,false,true,false,false,true,false,false,true,false,true,true,true,true],[0,1,2,9,10,11,12,13,42],B2i⟩]
theorem D0q:HH Tryz.prog O151 K151 Tryz.f151 [false,true,false,true,true,true,true] B2j:=fun k st out h=>by
 unfold B2j at h;split at h
 · rename_i x1 x2 x10 x12 l0 y1 b2_0 b2_1 b2_2
   exact Lo.of (b:=(if x12<(l0.length:Int) then (if 0≤x12 then (if x12<(l0.length:Int) then (if x10=true then ((G2.j1 k l0 x1 x2 y1 x10 x12 false b2_0 b2_1 b2_2 ((C8 l0 x12).f0) ((C8 l0 x12).f1) ((C8 l0 x12).f2)).bind fun r=>some (o151 l0 r)) else ((Q9.f (C8 l0 x12).f0 (C8 l0 x12).f1 x1 x2).bind fun r10=>((G2.j1 k l0 x1 x2 y1 x10 x12 (!decide (r10=true)) b2_0 b2_1 b2_2 ((C8 l0 x12).f0) ((C8 l0 x12).f1) ((C8 l0 x12).f2)).bind fun r=>some (o151 l0 r)))) else none) else none) else (if x10=true then (some (o151 l0 y1)) else (if y1.length+1<5864062014806 then (some (o151 l0 (y1++([(⟨b2_0,b2_1,b2_2⟩:S106)])))) else none)))) (by kernel_rfl) (by rw [G2.l0];exact lo_) _ h
 · cases h
theorem D0p:HH Tryz.prog O151 K151 Tryz.f151 [true,false,true,false,false,true,false,false,true,false,true,true,true,true] B2i:=fun k st out h=>by
 unfold B2i at h;split at h
 · rename_i x1 x2 x10 x12 x42 l0 y1 b2_0 b2_1 b2_2 b3_0 b3_1 b3_2
   exact Lo.of (b:=(if x42=true then (if y1.length+1<5864062014806 then (if b3_0=x1 then (if b3_1=x2 then ((G2.l0 k l0 x1 x2 (y1++([(⟨b2_0,b2_1,b2_2⟩:S106)])) true (RowKit.wrap64 (x12+1)) b2_0 b2_1 b2_2).bind fun r=>some (o151 l0 r)) else (if (y1++([(⟨b2_0,b2_1,b2_2⟩:S106)])).length+1<5864062014806 then ((G2.l0 k l0 x1 x2 (y1++([(⟨b2_0,b2_1,b2_2⟩:S106)])++([(⟨b3_0,b3_1,b3_2⟩:S106)])) true (RowKit.wrap64 (x12+1)) b2_0 b2_1 b2_2).bind fun r=>some (o151 l0 r)) else none)) else (if (y1++([(⟨b2_0,b2_1,b2_2⟩:S106)])).length+1<5864062014806 then ((G2.l0 k l0 x1 x2 (y1++([(⟨b2_0,b2_1,b2_2⟩:S106)])++([(⟨b3_0,b3_1,b3_2⟩:S106)])) true (RowKit.wrap64 (x12+1)) b2_0 b2_1 b2_2).bind fun r=>some (o151 l0 r)) else none)) else none) else (if b3_0=x1 then (if b3_1=x2 then ((G2.l0 k l0 x1 x2 y1 x10 (RowKit.wrap64 (x12+1)) b2_0 b2_1 b2_2).bind fun r=>some (o151 l0 r)) else (if y1.length+1<5864062014806 then ((G2.l0 k l0 x1 x2 (y1++([(⟨b3_0,b3_1,b3_2⟩:S106)])) x10 (RowKit.wrap64 (x12+1)) b2_0 b2_1 b2_2).bind fun r=>some (o151 l0 r)) else none)) else (if y1.length+1<5864062014806 then ((G2.l0 k l0 x1 x2 (y1++([(⟨b3_0,b3_1,b3_2⟩:S106)])) x10 (RowKit.wrap64 (x12+1)) b2_0 b2_1 b2_2).bind fun r=>some (o151 l0 r)) else none)))) (by kernel_rfl) (by rw [G2.j1];exact lo_) _ h
 · cases h
theorem d151:G8 Tryz.prog q151:=fn_d (O:=O151) (cs:=K151) (C0 d123 nil_) mixed Tryz.func151 (C0 (fun st=>by show B2j 0 st=none;unfold B2j;split<;>rfl) (C0 (fun st=>by show B2i 0 st=none;unfold B2i;split<;>rfl) nil_)) (C0 D0q (C0 D0p nil_)) fun k a h Z K z e=>by
 unfold Q151 at e;split at e
 · rename_i a1 a2 a3 l0
   exact ent e (Lo.of (b:=((G2.l0 k l0 a1 a2 ([]) (decide (a3=0)) 0 a1 a2 a3).bind fun r=>some (o151 l0 r))) (by kernel_rfl) (by unfold G2.f;exact lo_))
 · cases e
def o152 (l0:List Int) (r:Bool):Out Rw:=⟨[.c (.sc (.b r))],[.rows 0 (.eI l0)]⟩
def Q152:Mean Rw:=fun k a h Z K=>match a,h with
 | [.w (.c (.rw 0)),.w (.c (.sc (.i .i64 a1)))],[.rows 0 (.eI l0)]=>(P5.f k l0 a1).bind fun r=>K (o152 l0 r)
 | _,_=>none
def q152:Cal Rw:=⟨152,false,Q152⟩
def O152:List (Cal Rw):=[]
def B2h:Nat→St Rw→Option (Out Rw):=fun k st=>match st with
 | ⟨18,1,1,[(0,.w (.c (.rw 0))),(1,.w (.c (.sc (.i .i64 x1)))),(5,.w (.c (.sc (.i .i64 x5))))],[(0,.rows 0 (.eI l0))]⟩=>(P5.l0 k l0 x1 x5).bind fun r=>some (o152 l0 r)
 | _=>none
def K152:List (Cut Rw):=[⟨[false,true,false,true],[0,1,5],B2h⟩]
theorem D0o:HH Tryz.prog O152 K152 Tryz.f152 [false,true,false,true] B2h:=fun k st out h=>by
 unfold B2h at h;split at h
 · rename_i x1 x5 l0
   exact Lo.of (b:=(if x5<(l0.length:Int) then (if 0≤x5 then (if x5<(l0.length:Int) then (if l0.getD x5.toNat 0=x1 then (some (o152 l0 true)) else ((P5.l0 k l0 x1 (RowKit.wrap64 (x5+1))).bind fun r=>some (o152 l0 r))) else none) else none) else (some (o152 l0 false)))) (by kernel_rfl) (by rw [P5.l0];exact lo_) _ h
 · cases h
theorem d152:G8 Tryz.prog q152:=fn_d (O:=O152) (cs:=K152) nil_ mixed Tryz.func152 (C0 (fun st=>by show B2h 0 st=none;unfold B2h;split<;>rfl) nil_) (C0 D0o nil_) fun k a h Z K z e=>by
 unfold Q152 at e;split at e
 · rename_i a1 l0
   exact ent e (Lo.of (b:=((P5.l0 k l0 a1 0).bind fun r=>some (o152 l0 r))) (by kernel_rfl) (by unfold P5.f;exact lo_))
 · cases e
def o112 (l0:List S106) (l1:List S93) (l2:List Int) (r:(List (S106))×Int):Out Rw:=⟨[.c (.rw 3),.c (.sc (.i .i64 r.2))],[.rows 0 (.e106 l0),.rows 0 (.e93 l1),.rows 0 (.eI l2),.rows 2 (.e106 r.1)]⟩
def Q112:Mean Rw:=fun k a h Z K=>match a,h with
 | [.w (.c (.rw 0)),.w (.c (.rw 1)),.w (.c (.rw 2))],[.rows 0 (.e106 l0),.rows 0 (.e93 l1),.rows 0 (.eI l2)]=>(D7.f k l0 l1 l2).bind fun r=>K (o112 l0 l1 l2 r)
 | _,_=>none
def q112:Cal Rw:=⟨112,false,Q112⟩
def O112:List (Cal Rw):=[q78,q148,q149,q129,q150,q151,q152]
def B3g:Nat→St Rw→Option (Out Rw):=fun k st=>match st with
 | ⟨120,3,3,[(0,.w (.c (.rw 0))),(1,.w (.c (.rw 1))),(2,.w (.c (.rw 2))),(26,.w (.c (.sc (.b x26))))],[(0,.rows 0 (.e106 l0)),(1,.rows 0 (.e93 l1)),(2,.rows 0 (.eI l2))]⟩=>(D7.j0 k l0 l1 l2 x26).bind fun r=>some (o112 l0 l1 l2 r)
 | _=>none
def B3f:Nat→St Rw→Option (Out Rw):=fun k st=>match st with
 | ⟨120,3,4,[(0,.w (.c (.rw 0))),(1,.w (.c (.rw 1))),(2,.w (.c (.rw 2))),(9,.w (.c (.rw 3))),(10,.w (.c (.sc (.i .i64 x10))))],[(0,.rows 0 (.e106 l0)),(1,.rows 0 (.e93 l1)),(2,.rows 0 (.eI l2)),(3,.rows 2 (.e106 y3))]⟩=>(D7.l0 k l0 l1 l2 y3 x10).bind fun r=>some (o112 l0 l1 l2 r)
 | _=>none
def B3e:Nat→St Rw→Option (Out Rw):=fun k st=>match st with
 | ⟨120,3,4,[(0,.w (.c (.rw 0))),(1,.w (.c (.rw 1))),(2,.w (.c (.rw 2))),(9,.w (.c (.rw 3))),(13,.w (.c (.sc (.i .i64 x13))))],[(0,.rows 0 (.e106 l0)),(1,.rows 0 (.e93 l1)),(2,.rows 0 (.eI l2)),(3,.rows 2 (.e106 y3))]⟩=>(D7.l1 k l0 l1 l2 y3 x13).bind fun r=>some (o112 l0 l1 l2 r)
 | _=>none
def K112:List (Cut Rw):=[⟨[true,false,true],[0,1,2,26],B3g⟩,⟨[false,true,false,true,true,true,true,true],[0,1,2,9,10],B3f⟩,⟨[false,true,false,true,true,true,true,true,true],[0,1,2,9,13],B3e⟩]
theorem D1n:HH Tryz.prog O112 K112 Tryz.f112 [true,false,true] B3g:=fun k st out h=>by
 unfold B3g at h;split at h
 · rename_i x26 l0 l1 l2
   exact Lo.of (b:=(if x26=true then (some (o112 l0 l1 l2 ([],1))) else (if [].length+l0.length<5864062014806 then ((H5.f k l1).bind fun r5=>(if r5=true then ((D7.l0 k l0 l1 l2 ([]++l0) 0).bind fun r=>some (o112 l0 l1 l2 r)) else (some (o112 l0 l1 l2 ([]++l0,2))))) else none))) (by kernel_rfl) (by rw [D7.j0];exact lo_) _ h
 · cases h
theorem D1m:HH Tryz.prog O112 K112 Tryz.f112 [false,true,false,true,true,true,true,true] B3f:=fun k st out h=>by
 unfold B3f at h;split at h
 · rename_i x10 l0 l1 l2 y3
   exact Lo.of (b:=(if x10<(l1.length:Int) then (if 0≤x10 then (if x10<(l1.length:Int) then (if 0≤x10 then (if x10<(l1.length:Int) then (if 0≤x10 then (if x10<(l1.length:Int) then ((N8.f k y3 (K2 l1 x10).f0 (K2 l1 x10).f1).bind fun r6=>((Y8.f r6 (K2 l1 x10).f2).bind fun r7=>(if r7.2=true then (if 0≤x10 then (if x10<(l1.length:Int) then (if 0≤x10 then (if x10<(l1.length:Int) then ((G2.f k y3 (K2 l1 x10).f0 (K2 l1 x10).f1 r7.1).bind fun r8=>((D7.l0 k l0 l1 l2 r8 (RowKit.wrap64 (x10+1))).bind fun r=>some (o112 l0 l1 l2 r))) else none) else none) else none) else none) else (if [].length+l0.length<5864062014806 then (some (o112 l0 l1 l2 ([]++l0,4))) else none)))) else none) else none) else none) else none) else none) else none) else ((D7.l1 k l0 l1 l2 y3 0).bind fun r=>some (o112 l0 l1 l2 r)))) (by kernel_rfl) (by rw [D7.l0];exact lo_) _ h
 · cases h
theorem D1l:HH Tryz.prog O112 K112 Tryz.f112 [false,true,false,true,true,true,true,true,true] B3e:=fun k st out h=>by
 unfold B3e at h;split at h
 · rename_i x13 l0 l1 l2 y3
   exact Lo.of (b:=(if x13<(l1.length:Int) then (if 0≤x13 then (if x13<(l1.length:Int) then (if 0≤x13 then (if x13<(l1.length:Int) then ((N8.f k y3 (K2 l1 x13).f0 (K2 l1 x13).f1).bind fun r6=>(if r6<0 then (if 0≤x13 then (if x13<(l1.length:Int) then ((P5.f k l2 (K2 l1 x13).f0).bind fun r7=>(if r7=true then ((D7.l1 k l0 l1 l2 y3 (RowKit.wrap64 (x13+1))).bind fun r=>some (o112 l0 l1 l2 r)) else (if [].length+l0.length<5864062014806 then (some (o112 l0 l1 l2 ([]++l0,3))) else none))) else none) else none) else ((D7.l1 k l0 l1 l2 y3 (RowKit.wrap64 (x13+1))).bind fun r=>some (o112 l0 l1 l2 r)))) else none) else none) else none) else none) else (if (y3.length:Int)>160 then (if [].length+l0.length<5864062014806 then (some (o112 l0 l1 l2 ([]++l0,5))) else none) else (some (o112 l0 l1 l2 (y3,0)))))) (by kernel_rfl) (by rw [D7.l1];exact lo_) _ h
 · cases h
theorem d112:G8 Tryz.prog q112:=fn_d (O:=O112) (cs:=K112) (C0 d78 (C0 d148 (C0 d149 (C0 d129 (C0 d150 (C0 d151 (C0 d152 nil_))))))) mixed Tryz.func112 (C0 (fun st=>by show B3g 0 st=none;unfold B3g;split<;>rfl) (C0 (fun st=>by show B3f 0 st=none;unfold B3f;split<;>rfl) (C0 (fun st=>by show B3e 0 st=none;unfold B3e;split<;>rfl) nil_))) (C0 D1n (C0 D1m (C0 D1l nil_))) fun k a h Z K z e=>by
 unfold Q112 at e;split at e
 · rename_i l0 l1 l2
   exact ent e (Lo.of (b:=((I4.f k l0).bind fun r4=>(if r4=true then ((H2.f k l1).bind fun r5=>(if r5=true then ((D7.j0 k l0 l1 l2 (decide ((l2.length:Int)>20))).bind fun r=>some (o112 l0 l1 l2 r)) else ((D7.j0 k l0 l1 l2 true).bind fun r=>some (o112 l0 l1 l2 r)))) else ((D7.j0 k l0 l1 l2 true).bind fun r=>some (o112 l0 l1 l2 r))))) (by kernel_rfl) (by unfold D7.f;exact lo_))
 · cases e
def W67 (k:Nat) (d:Int) (l0:List S80) (l1:List S84) (l2:List S106) (l3:List S110) (l4:List S60) (l5:List S93) (Z:Type) (K:Out Rw→Option Z):Option Z:=((M6.f k l0 l1 l2 l3 l4 d).bind fun r8=>((D7.f k l2 l5 r8).bind fun r9=>(if r9.2=0 then (K ⟨[.ag [.rw 0,.rw 1,.rw 6,.rw 3,.rw 4,.sc (.i .i64 d)],.c (.sc (.i .i64 0))],[.rows 0 (.e80 l0),.rows 0 (.e84 l1),.rows 0 (.e106 l2),.rows 0 (.e110 l3),.rows 0 (.e60 l4),.rows 0 (.e93 l5),.rows 2 (.e106 r9.1)]⟩) else (if r9.2=3 then (K ⟨[.ag [.rw 0,.rw 1,.rw 2,.rw 3,.rw 4,.sc (.i .i64 d)],.c (.sc (.i .i64 5))],[.rows 0 (.e80 l0),.rows 0 (.e84 l1),.rows 0 (.e106 l2),.rows 0 (.e110 l3),.rows 0 (.e60 l4),.rows 0 (.e93 l5)]⟩) else (if r9.2=4 then (K ⟨[.ag [.rw 0,.rw 1,.rw 2,.rw 3,.rw 4,.sc (.i .i64 d)],.c (.sc (.i .i64 8))],[.rows 0 (.e80 l0),.rows 0 (.e84 l1),.rows 0 (.e106 l2),.rows 0 (.e110 l3),.rows 0 (.e60 l4),.rows 0 (.e93 l5)]⟩) else (K ⟨[.ag [.rw 0,.rw 1,.rw 2,.rw 3,.rw 4,.sc (.i .i64 d)],.c (.sc (.i .i64 7))],[.rows 0 (.e80 l0),.rows 0 (.e84 l1),.rows 0 (.e106 l2),.rows 0 (.e110 l3),.rows 0 (.e60 l4),.rows 0 (.e93 l5)]⟩))))))
def Q67:Mean Rw:=fun k a h Z K=>match a,h with
 | [.w (.ag [.rw 0,.rw 1,.rw 2,.rw 3,.rw 4,.sc (.i .i64 d)]),.w (.c (.rw 5))],[.rows 0 (.e80 l0),.rows 0 (.e84 l1),.rows 0 (.e106 l2),.rows 0 (.e110 l3),.rows 0 (.e60 l4),.rows 0 (.e93 l5)]=>W67 k d l0 l1 l2 l3 l4 l5 Z K
 | _,_=>none
def q67:Cal Rw:=⟨67,false,Q67⟩
def O67:List (Cal Rw):=[q113,q112]
theorem d67:G8 Tryz.prog q67:=fn_d (O:=O67) (cs:=[]) (C0 d113 (C0 d112 nil_)) mixed Tryz.func67 nil_ nil_ fun k a h Z K z e=>by
 unfold Q67 at e;split at e
 · rename_i d l0 l1 l2 l3 l4 l5
   exact tk_ (x:=W67 k d l0 l1 l2 l3 l4 l5 _ some) e (by kernel_rfl) (by unfold W67;exact tkw_)
 · cases e
def o182 (l0:List S110) (r:Int):Out Rw:=⟨[.c (.sc (.i .i64 r))],[.rows 0 (.e110 l0)]⟩
def Q182:Mean Rw:=fun k a h Z K=>match a,h with
 | [.w (.c (.rw 0))],[.rows 0 (.e110 l0)]=>(O9.f k l0).bind fun r=>K (o182 l0 r)
 | _,_=>none
def q182:Cal Rw:=⟨182,false,Q182⟩
def O182:List (Cal Rw):=[]
def B1w:Nat→St Rw→Option (Out Rw):=fun k st=>match st with
 | ⟨19,1,1,[(0,.w (.c (.rw 0))),(3,.w (.c (.sc (.i .i64 x3)))),(4,.w (.c (.sc (.i .i64 x4))))],[(0,.rows 0 (.e110 l0))]⟩=>(O9.l0 k l0 x3 x4).bind fun r=>some (o182 l0 r)
 | _=>none
def K182:List (Cut Rw):=[⟨[false,true,false,true,true],[0,3,4],B1w⟩]
theorem D0d:HH Tryz.prog O182 K182 Tryz.f182 [false,true,false,true,true] B1w:=fun k st out h=>by
 unfold B1w at h;split at h
 · rename_i x3 x4 l0
   exact Lo.of (b:=(if x4<(l0.length:Int) then (if 0≤x4 then (if x4<(l0.length:Int) then ((O9.l0 k l0 (RowKit.wrap64 (x3+(A4 l0 x4).f4)) (RowKit.wrap64 (x4+1))).bind fun r=>some (o182 l0 r)) else none) else none) else (some (o182 l0 x3)))) (by kernel_rfl) (by rw [O9.l0];exact lo_) _ h
 · cases h
theorem d182:G8 Tryz.prog q182:=fn_d (O:=O182) (cs:=K182) nil_ mixed Tryz.func182 (C0 (fun st=>by show B1w 0 st=none;unfold B1w;split<;>rfl) nil_) (C0 D0d nil_) fun k a h Z K z e=>by
 unfold Q182 at e;split at e
 · rename_i l0
   exact ent e (Lo.of (b:=((O9.l0 k l0 0 0).bind fun r=>some (o182 l0 r))) (by kernel_rfl) (by unfold O9.f;exact lo_))
 · cases e
def o162 (r:Int×Int×Bool):Out Rw:=⟨[.c (.sc (.i .i64 r.1)),.c (.sc (.i .i64 r.2.1)),.c (.sc (.b r.2.2))],[]⟩
def Q162:Mean Rw:=fun k a h Z K=>match a,h with
 | [.w (.c (.sc (.i .i64 a0))),.w (.c (.sc (.i .i64 a1))),.w (.c (.sc (.i .i64 a2)))],[]=>(F2.f k a0 a1 a2).bind fun r=>K (o162 r)
 | _,_=>none
def q162:Cal Rw:=⟨162,false,Q162⟩
def O162:List (Cal Rw):=[q66]
def B2c:Nat→St Rw→Option (Out Rw):=fun k st=>match st with
 | ⟨68,0,0,[(0,.w (.c (.sc (.i .i64 x0)))),(1,.w (.c (.sc (.i .i64 x1)))),(2,.w (.c (.sc (.i .i64 x2)))),(24,.w (.c (.sc (.b x24))))],[]⟩=>(F2.j0 k x0 x1 x2 x24).bind fun r=>some (o162 r)
 | _=>none
def B2b:Nat→St Rw→Option (Out Rw):=fun k st=>match st with
 | ⟨68,0,0,[(0,.w (.c (.sc (.i .i64 x0)))),(1,.w (.c (.sc (.i .i64 x1)))),(2,.w (.c (.sc (.i .i64 x2)))),(9,.w (.c (.sc (.i .i64 x9)))),(10,.w (.c (.sc (.i .i64 x10)))),(11,.w (.c (.sc (.i .i64 x11))))],[]⟩=>(F2.l0 k x0 x1 x2 x9 x10 x11).bind fun r=>some (o162 r)
 | _=>none
def B2a:Nat→St Rw→Option (Out Rw):=fun k st=>match st with
 | ⟨68,0,0,[(0,.w (.c (.sc (.i .i64 x0)))),(1,.w (.c (.sc (.i .i64 x1)))),(2,.w (.c (.sc (.i .i64 x2)))),(9,.w (.c (.sc (.i .i64 x9)))),(10,.w (.c (.sc (.i .i64 x10)))),(11,.w (.c (.sc (.i .i64 x11))))],[]⟩=>(F2.j2 k x0 x1 x2 x9 x10 x11).bind fun r=>some (o162 r)
 | _=>none
def K162:List (Cut Rw):=[⟨[true,false,true],[0,1,2,24],B2c⟩,⟨[false,true,false,true,true,true],[0,1,2,9,10,11],B2b⟩,⟨[true,true,true,false,false,true,false,false,true,false,true,true,true],[0,1,2,9,10,11],B2a⟩]
theorem D0j:HH Tryz.prog O162 K162 Tryz.f162 [true,false,true] B2c:=fun k st out h=>by
 unfold B2c at h;split at h
 · rename_i x0 x1 x2 x24
   exact Lo.of (b:=(if x24=true then (some (o162 (0,0,false))) else ((F2.l0 k x0 x1 x2 0 0 50).bind fun r=>some (o162 r)))) (by kernel_rfl) (by rw [F2.j0];exact lov_) _ h
 · cases h
theorem D0i:HH Tryz.prog O162 K162 Tryz.f162 [false,true,false,true,true,true] B2b:=fun k st out h=>by
 unfold B2b at h;split at h
 · rename_i x0 x1 x2 x9 x10 x11
   exact Lo.of (b:=(if x11≥0 then (if RowKit.wrap64 (2*x10)≥x2 then ((F2.j2 k x0 x1 x2 (RowKit.wrap64 (RowKit.wrap64 (2*x9)+1)) (RowKit.wrap64 (RowKit.wrap64 (2*x10)-x2)) x11).bind fun r=>some (o162 r)) else ((F2.j2 k x0 x1 x2 (RowKit.wrap64 (2*x9)) (RowKit.wrap64 (2*x10)) x11).bind fun r=>some (o162 r))) else (some (o162 (x9,x10,true))))) (by kernel_rfl) (by rw [F2.l0];exact lov_) _ h
 · cases h
theorem D0h:HH Tryz.prog O162 K162 Tryz.f162 [true,true,true,false,false,true,false,false,true,false,true,true,true] B2a:=fun k st out h=>by
 unfold B2a at h;split at h
 · rename_i x0 x1 x2 x9 x10 x11
   exact Lo.of (b:=(if 0≤x11 then (if bits BinOp.and IntKind.i64 (x0/2 ^ min x11.toNat IntKind.i64.bits) 1=1 then (if x2≠0 then (if x2≠0 then (if RowKit.wrap64 (x10+x1.tmod x2)≥x2 then (if RowKit.wrap64 (RowKit.wrap64 (x9+RowKit.wrap64 (x1.tdiv x2))+1)>1000000000000000 then (some (o162 (0,0,false))) else ((F2.l0 k x0 x1 x2 (RowKit.wrap64 (RowKit.wrap64 (x9+RowKit.wrap64 (x1.tdiv x2))+1)) (RowKit.wrap64 (RowKit.wrap64 (x10+x1.tmod x2)-x2)) (RowKit.wrap64 (x11-1))).bind fun r=>some (o162 r))) else (if RowKit.wrap64 (x9+RowKit.wrap64 (x1.tdiv x2))>1000000000000000 then (some (o162 (0,0,false))) else ((F2.l0 k x0 x1 x2 (RowKit.wrap64 (x9+RowKit.wrap64 (x1.tdiv x2))) (RowKit.wrap64 (x10+x1.tmod x2)) (RowKit.wrap64 (x11-1))).bind fun r=>some (o162 r)))) else none) else none) else (if x9>1000000000000000 then (some (o162 (0,0,false))) else ((F2.l0 k x0 x1 x2 x9 x10 (RowKit.wrap64 (x11-1))).bind fun r=>some (o162 r)))) else none)) (by kernel_rfl) (by rw [F2.j2];exact lov_) _ h
 · cases h
theorem d162:G8 Tryz.prog q162:=fn_d (O:=O162) (cs:=K162) (C0 d66 nil_) mixed Tryz.func162 (C0 (fun st=>by show B2c 0 st=none;unfold B2c;split<;>rfl) (C0 (fun st=>by show B2b 0 st=none;unfold B2b;split<;>rfl) (C0 (fun st=>by show B2a 0 st=none;unfold B2a;split<;>rfl) nil_))) (C0 D0j (C0 D0i (C0 D0h nil_))) fun k a h Z K z e=>by
 unfold Q162 at e;split at e
 · rename_i a0 a1 a2
   exact ent e (Lo.of (b:=((J9.f a0 0).bind fun r4=>(if r4=true then ((J9.f a1 0).bind fun r5=>(if r5=true then ((J9.f a2 1).bind fun r6=>((F2.j0 k a0 a1 a2 (!decide (r6=true))).bind fun r=>some (o162 r))) else ((F2.j0 k a0 a1 a2 true).bind fun r=>some (o162 r)))) else ((F2.j0 k a0 a1 a2 true).bind fun r=>some (o162 r))))) (by kernel_rfl) (by unfold F2.f;exact lov_))
 · cases e
def o160 (l0:List S110) (r:(List (S110))×Int):Out Rw:=⟨[.c (.rw 1),.c (.sc (.i .i64 r.2))],[.rows 0 (.e110 l0),.rows 2 (.e110 r.1)]⟩
def Q160:Mean Rw:=fun k a h Z K=>match a,h with
 | [.w (.c (.rw 0)),.w (.c (.sc (.i .i64 a1)))],[.rows 0 (.e110 l0)]=>(X9.f k l0 a1).bind fun r=>K (o160 l0 r)
 | _,_=>none
def q160:Cal Rw:=⟨160,false,Q160⟩
def O160:List (Cal Rw):=[q128,q182,q162]
def K160:List (Cut Rw):=[]
theorem d160:G8 Tryz.prog q160:=fn_d (O:=O160) (cs:=K160) (C0 d128 (C0 d182 (C0 d162 nil_))) mixed Tryz.func160 nil_ nil_ fun k a h Z K z e=>by
 unfold Q160 at e;split at e
 · rename_i a1 l0
   exact ent e (Lo.of (b:=((N7.f k l0).bind fun r3=>((O9.f k l0).bind fun r4=>((F2.f k r4 a1 r3).bind fun r5=>(if r3=a1 then (some (o160 l0 ([],r5.1))) else (if 0≤0 then (if 0<(l0.length:Int) then (some (o160 l0 ([(⟨(l0.getD (Int.toNat 0) z110).f0,(l0.getD (Int.toNat 0) z110).f1,(l0.getD (Int.toNat 0) z110).f2,RowKit.wrap64 (r3-a1),RowKit.wrap64 (r4-r5.1)⟩:S110)],r5.1))) else none) else none)))))) (by kernel_rfl) (by unfold X9.f;exact lo_))
 · cases e
end
end Go.Proofs.YtmfgajbkcnlkcaaGreat.AI
namespace Go.Proofs.YtmfgajbkcnlkcaaGreat.AI
open Go Go.RowKit Go.Proofs.YtmfgajbkcnlkcaaGreatW.PrintWords Go.Proofs.YtmfgajbkcnlkcaaGreat.P
set_option linter.unusedVariables false
set_option linter.all false
set_option maxRecDepth 100000
set_option maxHeartbeats 4000000
noncomputable section
def o153 (l0:List S110) (l1:List S110) (r:(List (S110))):Out Rw:=⟨[.c (.rw 2)],[.rows 0 (.e110 l0),.rows 0 (.e110 l1),.rows 2 (.e110 r)]⟩
def Q153:Mean Rw:=fun k a h Z K=>match a,h with
 | [.w (.c (.rw 0)),.w (.c (.rw 1))],[.rows 0 (.e110 l0),.rows 0 (.e110 l1)]=>(E0.f k l0 l1).bind fun r=>K (o153 l0 l1 r)
 | _,_=>none
def q153:Cal Rw:=⟨153,false,Q153⟩
def O153:List (Cal Rw):=[q125]
def B2g:Nat→St Rw→Option (Out Rw):=fun k st=>match st with
 | ⟨59,2,3,[(0,.w (.c (.rw 0))),(1,.w (.c (.rw 1))),(5,.w (.c (.rw 2))),(6,.w (.c (.sc (.i .i64 x6)))),(7,.w (.c (.sc (.i .i64 x7))))],[(0,.rows 0 (.e110 l0)),(1,.rows 0 (.e110 l1)),(2,.rows 2 (.e110 y2))]⟩=>(E0.l0 k l0 l1 y2 x6 x7).bind fun r=>some (o153 l0 l1 r)
 | _=>none
def B2f:Nat→St Rw→Option (Out Rw):=fun k st=>match st with
 | ⟨59,2,3,[(0,.w (.c (.rw 0))),(1,.w (.c (.rw 1))),(5,.w (.c (.rw 2))),(6,.w (.c (.sc (.i .i64 x6)))),(7,.w (.c (.sc (.i .i64 x7)))),(18,.w (.c (.sc (.b x18))))],[(0,.rows 0 (.e110 l0)),(1,.rows 0 (.e110 l1)),(2,.rows 2 (.e110 y2))]⟩=>(E0.j1 k l0 l1 y2 x6 x7 x18).bind fun r=>some (o153 l0 l1 r)
 | _=>none
def K153:List (Cut Rw):=[⟨[false,false,true,true,true],[0,1,5,6,7],B2g⟩,⟨[true,false,false,false,false,true,true,true],[0,1,5,6,7,18],B2f⟩]
theorem D0n:HH Tryz.prog O153 K153 Tryz.f153 [false,false,true,true,true] B2g:=fun k st out h=>by
 unfold B2g at h;split at h
 · rename_i x6 x7 l0 l1 y2
   exact Lo.of (b:=(if x6<(l0.length:Int) then ((E0.j1 k l0 l1 y2 x6 x7 true).bind fun r=>some (o153 l0 l1 r)) else ((E0.j1 k l0 l1 y2 x6 x7 (decide (x7<(l1.length:Int)))).bind fun r=>some (o153 l0 l1 r)))) (by kernel_rfl) (by rw [E0.l0];exact lo_) _ h
 · cases h
theorem D0m:HH Tryz.prog O153 K153 Tryz.f153 [true,false,false,false,false,true,true,true] B2f:=fun k st out h=>by
 unfold B2f at h;split at h
 · rename_i x6 x7 x18 l0 l1 y2
   exact Lo.of (b:=(if x18=true then (if x7=(l1.length:Int) then (if 0≤x6 then (if x6<(l0.length:Int) then (if y2.length+1<3518437208884 then ((E0.l0 k l0 l1 (y2++([(⟨(A4 l0 x6).f0,(A4 l0 x6).f1,(A4 l0 x6).f2,(A4 l0 x6).f3,(A4 l0 x6).f4⟩:S110)])) (RowKit.wrap64 (x6+1)) x7).bind fun r=>some (o153 l0 l1 r)) else none) else none) else none) else (if x6<(l0.length:Int) then (if 0≤x6 then (if x6<(l0.length:Int) then (if 0≤x7 then (if x7<(l1.length:Int) then ((T5.f (A4 l0 x6).f0 (A4 l0 x6).f1 (A4 l0 x6).f2 (A4 l0 x6).f3 (A4 l0 x6).f4 (A4 l1 x7).f0 (A4 l1 x7).f1 (A4 l1 x7).f2 (A4 l1 x7).f3 (A4 l1 x7).f4).bind fun r7=>(if r7=true then (if 0≤x6 then (if x6<(l0.length:Int) then (if y2.length+1<3518437208884 then ((E0.l0 k l0 l1 (y2++([(⟨(A4 l0 x6).f0,(A4 l0 x6).f1,(A4 l0 x6).f2,(A4 l0 x6).f3,(A4 l0 x6).f4⟩:S110)])) (RowKit.wrap64 (x6+1)) x7).bind fun r=>some (o153 l0 l1 r)) else none) else none) else none) else (if 0≤x7 then (if x7<(l1.length:Int) then (if y2.length+1<3518437208884 then ((E0.l0 k l0 l1 (y2++([(⟨(A4 l1 x7).f0,(A4 l1 x7).f1,(A4 l1 x7).f2,(A4 l1 x7).f3,(A4 l1 x7).f4⟩:S110)])) x6 (RowKit.wrap64 (x7+1))).bind fun r=>some (o153 l0 l1 r)) else none) else none) else none))) else none) else none) else none) else none) else (if 0≤x7 then (if x7<(l1.length:Int) then (if y2.length+1<3518437208884 then ((E0.l0 k l0 l1 (y2++([(⟨(A4 l1 x7).f0,(A4 l1 x7).f1,(A4 l1 x7).f2,(A4 l1 x7).f3,(A4 l1 x7).f4⟩:S110)])) x6 (RowKit.wrap64 (x7+1))).bind fun r=>some (o153 l0 l1 r)) else none) else none) else none))) else (some (o153 l0 l1 y2)))) (by kernel_rfl) (by rw [E0.j1];exact lo_) _ h
 · cases h
theorem d153:G8 Tryz.prog q153:=fn_d (O:=O153) (cs:=K153) (C0 d125 nil_) mixed Tryz.func153 (C0 (fun st=>by show B2g 0 st=none;unfold B2g;split<;>rfl) (C0 (fun st=>by show B2f 0 st=none;unfold B2f;split<;>rfl) nil_)) (C0 D0n (C0 D0m nil_)) fun k a h Z K z e=>by
 unfold Q153 at e;split at e
 · rename_i l0 l1
   exact ent e (Lo.of (b:=((E0.l0 k l0 l1 ([]) 0 0).bind fun r=>some (o153 l0 l1 r))) (by kernel_rfl) (by unfold E0.f;exact lo_))
 · cases e
def o161 (r:Int):Out Rw:=⟨[.c (.sc (.i .i64 r))],[]⟩
def Q161:Mean Rw:=fun k a h Z K=>match a,h with
 | [.w (.c (.sc (.i .i64 a0))),.w (.c (.sc (.i .i64 a1)))],[]=>(A0o.f a0 a1).bind fun r=>K (o161 r)
 | _,_=>none
def q161:Cal Rw:=⟨161,false,Q161⟩
def O161:List (Cal Rw):=[]
def K161:List (Cut Rw):=[]
theorem d161:G8 Tryz.prog q161:=fn_d (O:=O161) (cs:=K161) nil_ mixed Tryz.func161 nil_ nil_ fun k a h Z K z e=>by
 unfold Q161 at e;split at e
 · rename_i a0 a1
   exact ent e (Lo.of (b:=(if a0<a1 then (some (o161 a0)) else (some (o161 a1)))) (by kernel_rfl) (by unfold A0o.f;exact lo_))
 · cases e
def o120 (l0:List S110) (r:(List (S110))×Int×Int):Out Rw:=⟨[.c (.rw 1),.c (.sc (.i .i64 r.2.1)),.c (.sc (.i .i64 r.2.2))],[.rows 0 (.e110 l0),.rows 2 (.e110 r.1)]⟩
def Q120:Mean Rw:=fun k a h Z K=>match a,h with
 | [.w (.c (.rw 0)),.w (.c (.sc (.i .i64 a1))),.w (.c (.sc (.i .i64 a2))),.w (.c (.sc (.i .i64 a3))),.w (.c (.sc (.i .i64 a4)))],[.rows 0 (.e110 l0)]=>(D2.f k l0 a1 a2 a3 a4).bind fun r=>K (o120 l0 r)
 | _,_=>none
def q120:Cal Rw:=⟨120,false,Q120⟩
def O120:List (Cal Rw):=[q79,q66,q56,q127,q128,q160,q153,q161,q162]
def B2y:Nat→St Rw→Option (Out Rw):=fun k st=>match st with
 | ⟨131,1,1,[(0,.w (.c (.rw 0))),(1,.w (.c (.sc (.i .i64 x1)))),(2,.w (.c (.sc (.i .i64 x2)))),(3,.w (.c (.sc (.i .i64 x3)))),(4,.w (.c (.sc (.i .i64 x4)))),(36,.w (.c (.sc (.b x36))))],[(0,.rows 0 (.e110 l0))]⟩=>(D2.j0 k l0 x1 x2 x3 x4 x36).bind fun r=>some (o120 l0 r)
 | _=>none
def B2x:Nat→St Rw→Option (Out Rw):=fun k st=>match st with
 | ⟨131,1,3,[(3,.w (.c (.sc (.i .i64 x3)))),(4,.w (.c (.sc (.i .i64 x4)))),(13,.w (.c (.rw 1))),(14,.w (.c (.rw 2))),(17,.w (.c (.sc (.i .i64 x17))))],[(0,.rows 0 (.e110 l0)),(1,.rows 2 (.e110 y1)),(2,.rows 2 (.e110 y2))]⟩=>(D2.l0 k x3 x4 y1 y2 x17).bind fun r=>some (o120 l0 r)
 | _=>none
def B2w:Nat→St Rw→Option (Out Rw):=fun k st=>match st with
 | ⟨131,1,3,[(3,.w (.c (.sc (.i .i64 x3)))),(4,.w (.c (.sc (.i .i64 x4)))),(13,.w (.c (.rw 1))),(14,.w (.c (.rw 2))),(17,.w (.c (.sc (.i .i64 x17)))),(18,.w (.c (.sc (.i .i64 x18))))],[(0,.rows 0 (.e110 l0)),(1,.rows 2 (.e110 y1)),(2,.rows 2 (.e110 y2))]⟩=>(D2.j2 k x3 x4 y1 y2 x17 x18).bind fun r=>some (o120 l0 r)
 | _=>none
def K120:List (Cut Rw):=[⟨[true,false,true],[0,1,2,3,4,36],B2y⟩,⟨[false,false,true,true,true,true,true,true],[3,4,13,14,17],B2x⟩,⟨[true,true,false,true,false,false,false,true,true,true,true,true,true],[3,4,13,14,17,18],B2w⟩]
theorem D1f:HH Tryz.prog O120 K120 Tryz.f120 [true,false,true] B2y:=fun k st out h=>by
 unfold B2y at h;split at h
 · rename_i x1 x2 x3 x4 x36 l0
   exact Lo.of (b:=(if x36=true then (some (o120 l0 ([],0,1))) else ((I6.f k l0 x1 x2).bind fun r7=>((N7.f k r7.1).bind fun r8=>(if r8<x3 then (if [].length+l0.length<3518437208884 then (some (o120 l0 ([]++l0,0,2))) else none) else (if x4=3 then ((X9.f k r7.1 x3).bind fun r9=>((E0.f k r7.2 r9.1).bind fun r10=>(some (o120 l0 (r10,r9.2,0))))) else ((D2.l0 k x3 x4 r7.1 r7.2 0).bind fun r=>some (o120 l0 r)))))))) (by kernel_rfl) (by rw [D2.j0];exact lov_) _ h
 · cases h
theorem D1e:HH Tryz.prog O120 K120 Tryz.f120 [false,false,true,true,true,true,true,true] B2x:=fun k st out h=>by
 unfold B2x at h;split at h
 · rename_i x3 x4 x17 l0 y1 y2
   exact Lo.of (b:=(if x3>0 then (if x4=2 then ((D2.j2 k x3 x4 y1 y2 x17 (RowKit.wrap64 ((y1.length:Int)-1))).bind fun r=>some (o120 l0 r)) else ((D2.j2 k x3 x4 y1 y2 x17 0).bind fun r=>some (o120 l0 r))) else ((E0.f k y2 y1).bind fun r7=>(some (o120 l0 (r7,x17,0)))))) (by kernel_rfl) (by rw [D2.l0];exact lov_) _ h
 · cases h
theorem D1d:HH Tryz.prog O120 K120 Tryz.f120 [true,true,false,true,false,false,false,true,true,true,true,true,true] B2w:=fun k st out h=>by
 unfold B2w at h;split at h
 · rename_i x3 x4 x17 x18 l0 y1 y2
   exact Lo.of (b:=(if 0≤x18 then (if x18<(y1.length:Int) then ((A0o.f (A4 y1 x18).f3 x3).bind fun r8=>((F2.f k (A4 y1 x18).f4 r8 (A4 y1 x18).f3).bind fun r9=>(if 0≤x18 then (if x18<(y1.length:Int) then ((some (y1.set x18.toNat (⟨(A4 y1 x18).f0,(A4 y1 x18).f1,(A4 y1 x18).f2,RowKit.wrap64 ((A4 y1 x18).f3-r8),(A4 y1 x18).f4⟩:S110))).bind fun y10=>(if 0≤x18 then (if x18<(y10.length:Int) then ((some (y10.set x18.toNat (⟨(A4 y10 x18).f0,(A4 y10 x18).f1,(A4 y10 x18).f2,(A4 y10 x18).f3,RowKit.wrap64 ((A4 y1 x18).f4-r9.1)⟩:S110))).bind fun y11=>(if 0≤x18 then (if x18<(y11.length:Int) then (if (A4 y11 x18).f3=0 then (if 0≤x18 then (if x18≤(y11.length:Int) then (if 0≤RowKit.wrap64 (x18+1) then (if RowKit.wrap64 (x18+1)≤(y11.length:Int) then (if [].length+x18.toNat<3518437208884 then (if ([]++List.take x18.toNat (List.drop 0 y11)).length+(y11.length-(RowKit.wrap64 (x18+1)).toNat)<3518437208884 then ((D2.l0 k (RowKit.wrap64 (x3-r8)) x4 ([]++List.take x18.toNat (List.drop 0 y11)++List.take (y11.length-(RowKit.wrap64 (x18+1)).toNat) (List.drop (RowKit.wrap64 (x18+1)).toNat y11)) y2 (RowKit.wrap64 (x17+r9.1))).bind fun r=>some (o120 l0 r)) else none) else none) else none) else none) else none) else none) else ((D2.l0 k (RowKit.wrap64 (x3-r8)) x4 y11 y2 (RowKit.wrap64 (x17+r9.1))).bind fun r=>some (o120 l0 r))) else none) else none)) else none) else none)) else none) else none))) else none) else none)) (by kernel_rfl) (by rw [D2.j2];exact (lov_ (by repeat' first | with_reducible exact A2h | exact C4t (F:=fun r=>D2.l0 k _ x4 r y2 _) (by simp only [*,List.length_set]) (by assumption) (by decide) | with_reducible refine B5g (fun _ _=>?_) | with_reducible refine B1j (fun _=>?_) | with_reducible refine B0r (fun _=>?_) (fun _=>?_) | with_reducible refine B1e (by first | assumption | (simp only [*,List.length_set];done) | omega) ?_ | exact Lo.refl _))) _ h
 · cases h
theorem d120:G8 Tryz.prog q120:=fn_d (O:=O120) (cs:=K120) (C0 d79 (C0 d66 (C0 d56 (C0 d127 (C0 d128 (C0 d160 (C0 d153 (C0 d161 (C0 d162 nil_))))))))) mixed Tryz.func120 (C0 (fun st=>by show B2y 0 st=none;unfold B2y;split<;>rfl) (C0 (fun st=>by show B2x 0 st=none;unfold B2x;split<;>rfl) (C0 (fun st=>by show B2w 0 st=none;unfold B2w;split<;>rfl) nil_))) (C0 D1f (C0 D1e (C0 D1d nil_))) fun k a h Z K z e=>by
 unfold Q120 at e;split at e
 · rename_i a1 a2 a3 a4 l0
   exact ent e (Lo.of (b:=((C7.f k l0).bind fun r6=>(if r6=true then ((J9.f a3 1).bind fun r7=>(if r7=true then ((N9.f a4 1 3).bind fun r8=>((D2.j0 k l0 a1 a2 a3 a4 (!decide (r8=true))).bind fun r=>some (o120 l0 r))) else ((D2.j0 k l0 a1 a2 a3 a4 true).bind fun r=>some (o120 l0 r)))) else ((D2.j0 k l0 a1 a2 a3 a4 true).bind fun r=>some (o120 l0 r))))) (by kernel_rfl) (by unfold D2.f;exact lov_))
 · cases e
def o114 (l0:List S110) (r:(List (S110))×Int):Out Rw:=⟨[.c (.rw 1),.c (.sc (.i .i64 r.2))],[.rows 0 (.e110 l0),.rows 2 (.e110 r.1)]⟩
def Q114:Mean Rw:=fun k a h Z K=>match a,h with
 | [.w (.c (.rw 0)),.w (.ag [.sc (.i .i64 a1_0),.sc (.i .i64 a1_1),.sc (.i .i64 a1_2),.sc (.i .i64 a1_3),.sc (.i .i64 a1_4)])],[.rows 0 (.e110 l0)]=>(I7.f k l0 a1_0 a1_1 a1_2 a1_3 a1_4).bind fun r=>K (o114 l0 r)
 | _,_=>none
def q114:Cal Rw:=⟨114,false,Q114⟩
def O114:List (Cal Rw):=[q79,q124,q153]
def B3c:Nat→St Rw→Option (Out Rw):=fun k st=>match st with
 | ⟨27,1,2,[(0,.w (.c (.rw 0))),(3,.pt 1 0),(14,.w (.c (.sc (.b x14))))],[(0,.rows 0 (.e110 l0)),(1,.box 110 [.sc (.i .i64 b1_0),.sc (.i .i64 b1_1),.sc (.i .i64 b1_2),.sc (.i .i64 b1_3),.sc (.i .i64 b1_4)])]⟩=>(I7.j0 k l0 x14 b1_0 b1_1 b1_2 b1_3 b1_4).bind fun r=>some (o114 l0 r)
 | _=>none
def K114:List (Cut Rw):=[⟨[true,false,true],[0,3,14],B3c⟩]
theorem D1j:HH Tryz.prog O114 K114 Tryz.f114 [true,false,true] B3c:=fun k st out h=>by
 unfold B3c at h;split at h
 · rename_i x14 l0 b1_0 b1_1 b1_2 b1_3 b1_4
   exact Lo.of (b:=(if x14=true then (some (o114 l0 ([],1))) else ((E0.f k l0 ([(⟨b1_0,b1_1,b1_2,b1_3,b1_4⟩:S110)])).bind fun r8=>((C7.f k r8).bind fun r9=>(if r9=true then (some (o114 l0 (r8,0))) else (if [].length+l0.length<3518437208884 then (some (o114 l0 ([]++l0,3))) else none)))))) (by kernel_rfl) (by rw [I7.j0];exact lo_) _ h
 · cases h
theorem d114:G8 Tryz.prog q114:=fn_d (O:=O114) (cs:=K114) (C0 d79 (C0 d124 (C0 d153 nil_))) mixed Tryz.func114 (C0 (fun st=>by show B3c 0 st=none;unfold B3c;split<;>rfl) nil_) (C0 D1j nil_) fun k a h Z K z e=>by
 unfold Q114 at e;split at e
 · rename_i a1_0 a1_1 a1_2 a1_3 a1_4 l0
   exact ent e (Lo.of (b:=((C7.f k l0).bind fun r7=>(if r7=true then ((U5.f a1_0 a1_1 a1_2 a1_3 a1_4).bind fun r8=>((I7.j0 k l0 (!decide (r8=true)) a1_0 a1_1 a1_2 a1_3 a1_4).bind fun r=>some (o114 l0 r))) else ((I7.j0 k l0 true a1_0 a1_1 a1_2 a1_3 a1_4).bind fun r=>some (o114 l0 r))))) (by kernel_rfl) (by unfold I7.f;exact lo_))
 · cases e
def W69 (k:Nat) (d:Int) (l0:List S80) (l1:List S84) (l2:List S106) (l3:List S110) (l4:List S60) (a1:Int) (a2:Int) (a3:Int) (a4:Int) (Z:Type) (K:Out Rw→Option Z):Option Z:=(if d=1000000000 then (K ⟨[.ag [.rw 0,.rw 1,.rw 2,.rw 3,.rw 4,.sc (.i .i64 d)],.c (.sc (.i .i64 7))],[.rows 0 (.e80 l0),.rows 0 (.e84 l1),.rows 0 (.e106 l2),.rows 0 (.e110 l3),.rows 0 (.e60 l4)]⟩) else ((I7.f k l3 a1 a2 (RowKit.wrap64 (d+1)) a3 a4).bind fun r11=>(if r11.2=0 then (K ⟨[.ag [.rw 0,.rw 1,.rw 2,.rw 5,.rw 4,.sc (.i .i64 (RowKit.wrap64 (d+1)))],.c (.sc (.i .i64 0))],[.rows 0 (.e80 l0),.rows 0 (.e84 l1),.rows 0 (.e106 l2),.rows 0 (.e110 l3),.rows 0 (.e60 l4),.rows 2 (.e110 r11.1)]⟩) else (K ⟨[.ag [.rw 0,.rw 1,.rw 2,.rw 3,.rw 4,.sc (.i .i64 d)],.c (.sc (.i .i64 7))],[.rows 0 (.e80 l0),.rows 0 (.e84 l1),.rows 0 (.e106 l2),.rows 0 (.e110 l3),.rows 0 (.e60 l4)]⟩))))
def Q69:Mean Rw:=fun k a h Z K=>match a,h with
 | [.w (.ag [.rw 0,.rw 1,.rw 2,.rw 3,.rw 4,.sc (.i .i64 d)]),.w (.c (.sc (.i .i64 a1))),.w (.c (.sc (.i .i64 a2))),.w (.c (.sc (.i .i64 a3))),.w (.c (.sc (.i .i64 a4)))],[.rows 0 (.e80 l0),.rows 0 (.e84 l1),.rows 0 (.e106 l2),.rows 0 (.e110 l3),.rows 0 (.e60 l4)]=>W69 k d l0 l1 l2 l3 l4 a1 a2 a3 a4 Z K
 | _,_=>none
def q69:Cal Rw:=⟨69,false,Q69⟩
def O69:List (Cal Rw):=[q114]
theorem d69:G8 Tryz.prog q69:=fn_d (O:=O69) (cs:=[]) (C0 d114 nil_) mixed Tryz.func69 nil_ nil_ fun k a h Z K z e=>by
 unfold Q69 at e;split at e
 · rename_i d a1 a2 a3 a4 l0 l1 l2 l3 l4
   exact tk_ (x:=W69 k d l0 l1 l2 l3 l4 a1 a2 a3 a4 _ some) e (by kernel_rfl) (by unfold W69;exact tkw_)
 · cases e
def W74 (k:Nat) (d:Int) (l0:List S80) (l1:List S84) (l2:List S106) (l3:List S110) (l4:List S60) (a1:Int) (a2:Int) (a3:Int) (a4:Int) (a5:Int) (a6:Int) (Z:Type) (K:Out Rw→Option Z):Option Z:=((D2.f k l3 a1 a3 a4 a5).bind fun r13=>(if r13.2.2=0 then (if a6<0 then (if d=1000000000 then (K ⟨[.ag [.rw 0,.rw 1,.rw 2,.rw 5,.rw 4,.sc (.i .i64 d)],.c (.sc (.i .i64 r13.2.1)),.c (.sc (.i .i64 7))],[.rows 0 (.e80 l0),.rows 0 (.e84 l1),.rows 0 (.e106 l2),.rows 0 (.e110 l3),.rows 0 (.e60 l4),.rows 2 (.e110 r13.1)]⟩) else ((I7.f k r13.1 a2 a3 (RowKit.wrap64 (d+1)) a4 r13.2.1).bind fun r1114=>(if r1114.2=0 then (K ⟨[.ag [.rw 0,.rw 1,.rw 2,.rw 5,.rw 4,.sc (.i .i64 (RowKit.wrap64 (d+1)))],.c (.sc (.i .i64 r13.2.1)),.c (.sc (.i .i64 0))],[.rows 0 (.e80 l0),.rows 0 (.e84 l1),.rows 0 (.e106 l2),.rows 0 (.e110 l3),.rows 0 (.e60 l4),.rows 2 (.e110 r1114.1)]⟩) else (K ⟨[.ag [.rw 0,.rw 1,.rw 2,.rw 5,.rw 4,.sc (.i .i64 d)],.c (.sc (.i .i64 r13.2.1)),.c (.sc (.i .i64 7))],[.rows 0 (.e80 l0),.rows 0 (.e84 l1),.rows 0 (.e106 l2),.rows 0 (.e110 l3),.rows 0 (.e60 l4),.rows 2 (.e110 r13.1)]⟩)))) else (if d=1000000000 then (K ⟨[.ag [.rw 0,.rw 1,.rw 2,.rw 5,.rw 4,.sc (.i .i64 d)],.c (.sc (.i .i64 r13.2.1)),.c (.sc (.i .i64 7))],[.rows 0 (.e80 l0),.rows 0 (.e84 l1),.rows 0 (.e106 l2),.rows 0 (.e110 l3),.rows 0 (.e60 l4),.rows 2 (.e110 r13.1)]⟩) else ((I7.f k r13.1 a2 a3 (RowKit.wrap64 (d+1)) a4 a6).bind fun r1114=>(if r1114.2=0 then (K ⟨[.ag [.rw 0,.rw 1,.rw 2,.rw 5,.rw 4,.sc (.i .i64 (RowKit.wrap64 (d+1)))],.c (.sc (.i .i64 r13.2.1)),.c (.sc (.i .i64 0))],[.rows 0 (.e80 l0),.rows 0 (.e84 l1),.rows 0 (.e106 l2),.rows 0 (.e110 l3),.rows 0 (.e60 l4),.rows 2 (.e110 r1114.1)]⟩) else (K ⟨[.ag [.rw 0,.rw 1,.rw 2,.rw 5,.rw 4,.sc (.i .i64 d)],.c (.sc (.i .i64 r13.2.1)),.c (.sc (.i .i64 7))],[.rows 0 (.e80 l0),.rows 0 (.e84 l1),.rows 0 (.e106 l2),.rows 0 (.e110 l3),.rows 0 (.e60 l4),.rows 2 (.e110 r13.1)]⟩))))) else (K ⟨[.ag [.rw 0,.rw 1,.rw 2,.rw 3,.rw 4,.sc (.i .i64 d)],.c (.sc (.i .i64 0)),.c (.sc (.i .i64 5))],[.rows 0 (.e80 l0),.rows 0 (.e84 l1),.rows 0 (.e106 l2),.rows 0 (.e110 l3),.rows 0 (.e60 l4)]⟩)))
def Q74:Mean Rw:=fun k a h Z K=>match a,h with
 | [.w (.ag [.rw 0,.rw 1,.rw 2,.rw 3,.rw 4,.sc (.i .i64 d)]),.w (.c (.sc (.i .i64 a1))),.w (.c (.sc (.i .i64 a2))),.w (.c (.sc (.i .i64 a3))),.w (.c (.sc (.i .i64 a4))),.w (.c (.sc (.i .i64 a5))),.w (.c (.sc (.i .i64 a6)))],[.rows 0 (.e80 l0),.rows 0 (.e84 l1),.rows 0 (.e106 l2),.rows 0 (.e110 l3),.rows 0 (.e60 l4)]=>W74 k d l0 l1 l2 l3 l4 a1 a2 a3 a4 a5 a6 Z K
 | _,_=>none
def q74:Cal Rw:=⟨74,false,Q74⟩
def O74:List (Cal Rw):=[q120,q69]
theorem d74:G8 Tryz.prog q74:=fn_d (O:=O74) (cs:=[]) (C0 d120 (C0 d69 nil_)) mixed Tryz.func74 nil_ nil_ fun k a h Z K z e=>by
 unfold Q74 at e;split at e
 · rename_i d a1 a2 a3 a4 a5 a6 l0 l1 l2 l3 l4
   exact tk_ (x:=W74 k d l0 l1 l2 l3 l4 a1 a2 a3 a4 a5 a6 _ some) e (by kernel_rfl) (by unfold W74;exact tkw_)
 · cases e
def o21 (l0_0:List S80) (l0_1:List S84) (l0_2:List S106) (l0_3:List S110) (l0_4:List S60) (r:(List (S80))×(List (S84))×(List (S106))×(List (S110))×(List (S60))×Int×Int×Int):Out Rw:=⟨[.ag [.rw 5,.rw 6,.rw 7,.rw 8,.rw 9,.sc (.i .i64 r.2.2.2.2.2.1)],.c (.sc (.i .i64 r.2.2.2.2.2.2.1)),.c (.sc (.i .i64 r.2.2.2.2.2.2.2))],[.rows 0 (.e80 l0_0),.rows 0 (.e84 l0_1),.rows 0 (.e106 l0_2),.rows 0 (.e110 l0_3),.rows 0 (.e60 l0_4),.rows 2 (.e80 r.1),.rows 2 (.e84 r.2.1),.rows 2 (.e106 r.2.2.1),.rows 2 (.e110 r.2.2.2.1),.rows 2 (.e60 r.2.2.2.2.1)]⟩
def Q21:Mean Rw:=fun k a h Z K=>match a,h with
 | [.w (.ag [.rw 0,.rw 1,.rw 2,.rw 3,.rw 4,.sc (.i .i64 a0_5)]),.w (.c (.sc (.i .i64 a1))),.w (.c (.sc (.i .i64 a2))),.w (.c (.sc (.i .i64 a3))),.w (.c (.sc (.i .i64 a4))),.w (.c (.sc (.i .i64 a5)))],[.rows 0 (.e80 l0_0),.rows 0 (.e84 l0_1),.rows 0 (.e106 l0_2),.rows 0 (.e110 l0_3),.rows 0 (.e60 l0_4)]=>(Y0.f k l0_0 l0_1 l0_2 l0_3 l0_4 a0_5 a1 a2 a3 a4 a5).bind fun r=>K (o21 l0_0 l0_1 l0_2 l0_3 l0_4 r)
 | _,_=>none
def q21:Cal Rw:=⟨21,false,Q21⟩
def O21:List (Cal Rw):=[q28,q29,q66,q56,q57,q62,q30,q68,q67,q74]
def K21:List (Cut Rw):=[]
theorem d21:G8 Tryz.prog q21:=fn_d (O:=O21) (cs:=K21) (C0 d28 (C0 d29 (C0 d66 (C0 d56 (C0 d57 (C0 d62 (C0 d30 (C0 d68 (C0 d67 (C0 d74 nil_)))))))))) mixed Tryz.func21 nil_ nil_ fun k a h Z K z e=>by
 unfold Q21 at e;split at e
 · rename_i a0_5 a1 a2 a3 a4 a5 l0_0 l0_1 l0_2 l0_3 l0_4
   exact ent e (Lo.of (b:=((F5.f k l0_0 l0_1 l0_2 l0_3 l0_4 a0_5).bind fun r12=>(if r12=true then ((I3.f a1).bind fun r13=>(if r13=true then ((I3.f a2).bind fun r14=>(if r14=true then ((I3.f a3).bind fun r15=>(if r15=true then ((J9.f a4 1).bind fun r16=>(if r16=true then ((N9.f a5 1 3).bind fun r17=>(if r17=true then ((C9.f k l0_0 a1).bind fun r18=>((C9.f k l0_0 a2).bind fun r19=>((D6.f k l0_1 a3).bind fun r20=>(if r18=0 then ((D5.f l0_0 l0_1 l0_2 l0_3 l0_4 a0_5).bind fun r21=>(some (o21 l0_0 l0_1 l0_2 l0_3 l0_4 (r21.1,r21.2.1,r21.2.2.1,r21.2.2.2.1,r21.2.2.2.2.1,r21.2.2.2.2.2,0,3)))) else (if r19=0 then ((D5.f l0_0 l0_1 l0_2 l0_3 l0_4 a0_5).bind fun r21=>(some (o21 l0_0 l0_1 l0_2 l0_3 l0_4 (r21.1,r21.2.1,r21.2.2.1,r21.2.2.2.1,r21.2.2.2.2.1,r21.2.2.2.2.2,0,3)))) else (if r20=0 then ((D5.f l0_0 l0_1 l0_2 l0_3 l0_4 a0_5).bind fun r21=>(some (o21 l0_0 l0_1 l0_2 l0_3 l0_4 (r21.1,r21.2.1,r21.2.2.1,r21.2.2.2.1,r21.2.2.2.2.1,r21.2.2.2.2.2,0,3)))) else (if r18=1 then (if r19=1 then (if a1=a2 then ((D5.f l0_0 l0_1 l0_2 l0_3 l0_4 a0_5).bind fun r21=>(some (o21 l0_0 l0_1 l0_2 l0_3 l0_4 (r21.1,r21.2.1,r21.2.2.1,r21.2.2.2.1,r21.2.2.2.2.1,r21.2.2.2.2.2,0,4)))) else ((D5.f l0_0 l0_1 l0_2 l0_3 l0_4 a0_5).bind fun r21=>((Y7.f a1 a2 a3 a4).bind fun r22=>((M6.f k r21.1 r21.2.1 r21.2.2.1 r21.2.2.2.1 r21.2.2.2.2.1 r21.2.2.2.2.2).bind fun r823=>((D7.f k r21.2.2.1 r22 r823).bind fun r924=>(if r924.2=0 then (if 0=0 then (if r20=2 then ((D2.f k r21.2.2.2.1 a1 a3 a4 a5).bind fun r1325=>(if r1325.2.2=0 then (if -1<0 then (if r21.2.2.2.2.2=1000000000 then (if 7=0 then (some (o21 l0_0 l0_1 l0_2 l0_3 l0_4 (r21.1,r21.2.1,r924.1,r1325.1,r21.2.2.2.2.1,r21.2.2.2.2.2,r1325.2.1,0))) else ((D5.f l0_0 l0_1 l0_2 l0_3 l0_4 a0_5).bind fun r26=>(some (o21 l0_0 l0_1 l0_2 l0_3 l0_4 (r26.1,r26.2.1,r26.2.2.1,r26.2.2.2.1,r26.2.2.2.2.1,r26.2.2.2.2.2,0,7))))) else ((I7.f k r1325.1 a2 a3 (RowKit.wrap64 (r21.2.2.2.2.2+1)) a4 r1325.2.1).bind fun r111426=>(if r111426.2=0 then (if 0=0 then (some (o21 l0_0 l0_1 l0_2 l0_3 l0_4 (r21.1,r21.2.1,r924.1,r111426.1,r21.2.2.2.2.1,RowKit.wrap64 (r21.2.2.2.2.2+1),r1325.2.1,0))) else ((D5.f l0_0 l0_1 l0_2 l0_3 l0_4 a0_5).bind fun r27=>(some (o21 l0_0 l0_1 l0_2 l0_3 l0_4 (r27.1,r27.2.1,r27.2.2.1,r27.2.2.2.1,r27.2.2.2.2.1,r27.2.2.2.2.2,0,0))))) else (if 7=0 then (some (o21 l0_0 l0_1 l0_2 l0_3 l0_4 (r21.1,r21.2.1,r924.1,r1325.1,r21.2.2.2.2.1,r21.2.2.2.2.2,r1325.2.1,0))) else ((D5.f l0_0 l0_1 l0_2 l0_3 l0_4 a0_5).bind fun r27=>(some (o21 l0_0 l0_1 l0_2 l0_3 l0_4 (r27.1,r27.2.1,r27.2.2.1,r27.2.2.2.1,r27.2.2.2.2.1,r27.2.2.2.2.2,0,7)))))))) else (if r21.2.2.2.2.2=1000000000 then (if 7=0 then (some (o21 l0_0 l0_1 l0_2 l0_3 l0_4 (r21.1,r21.2.1,r924.1,r1325.1,r21.2.2.2.2.1,r21.2.2.2.2.2,r1325.2.1,0))) else ((D5.f l0_0 l0_1 l0_2 l0_3 l0_4 a0_5).bind fun r26=>(some (o21 l0_0 l0_1 l0_2 l0_3 l0_4 (r26.1,r26.2.1,r26.2.2.1,r26.2.2.2.1,r26.2.2.2.2.1,r26.2.2.2.2.2,0,7))))) else ((I7.f k r1325.1 a2 a3 (RowKit.wrap64 (r21.2.2.2.2.2+1)) a4 (-1)).bind fun r111426=>(if r111426.2=0 then (if 0=0 then (some (o21 l0_0 l0_1 l0_2 l0_3 l0_4 (r21.1,r21.2.1,r924.1,r111426.1,r21.2.2.2.2.1,RowKit.wrap64 (r21.2.2.2.2.2+1),r1325.2.1,0))) else ((D5.f l0_0 l0_1 l0_2 l0_3 l0_4 a0_5).bind fun r27=>(some (o21 l0_0 l0_1 l0_2 l0_3 l0_4 (r27.1,r27.2.1,r27.2.2.1,r27.2.2.2.1,r27.2.2.2.2.1,r27.2.2.2.2.2,0,0))))) else (if 7=0 then (some (o21 l0_0 l0_1 l0_2 l0_3 l0_4 (r21.1,r21.2.1,r924.1,r1325.1,r21.2.2.2.2.1,r21.2.2.2.2.2,r1325.2.1,0))) else ((D5.f l0_0 l0_1 l0_2 l0_3 l0_4 a0_5).bind fun r27=>(some (o21 l0_0 l0_1 l0_2 l0_3 l0_4 (r27.1,r27.2.1,r27.2.2.1,r27.2.2.2.1,r27.2.2.2.2.1,r27.2.2.2.2.2,0,7))))))))) else (if 5=0 then (some (o21 l0_0 l0_1 l0_2 l0_3 l0_4 (r21.1,r21.2.1,r924.1,r21.2.2.2.1,r21.2.2.2.2.1,r21.2.2.2.2.2,0,0))) else ((D5.f l0_0 l0_1 l0_2 l0_3 l0_4 a0_5).bind fun r26=>(some (o21 l0_0 l0_1 l0_2 l0_3 l0_4 (r26.1,r26.2.1,r26.2.2.1,r26.2.2.2.1,r26.2.2.2.2.1,r26.2.2.2.2.2,0,5))))))) else (if 0=0 then (some (o21 l0_0 l0_1 l0_2 l0_3 l0_4 (r21.1,r21.2.1,r924.1,r21.2.2.2.1,r21.2.2.2.2.1,r21.2.2.2.2.2,0,0))) else ((D5.f l0_0 l0_1 l0_2 l0_3 l0_4 a0_5).bind fun r25=>(some (o21 l0_0 l0_1 l0_2 l0_3 l0_4 (r25.1,r25.2.1,r25.2.2.1,r25.2.2.2.1,r25.2.2.2.2.1,r25.2.2.2.2.2,0,0)))))) else (if 0=0 then (some (o21 l0_0 l0_1 l0_2 l0_3 l0_4 (r21.1,r21.2.1,r924.1,r21.2.2.2.1,r21.2.2.2.2.1,r21.2.2.2.2.2,0,0))) else ((D5.f l0_0 l0_1 l0_2 l0_3 l0_4 a0_5).bind fun r25=>(some (o21 l0_0 l0_1 l0_2 l0_3 l0_4 (r25.1,r25.2.1,r25.2.2.1,r25.2.2.2.1,r25.2.2.2.2.1,r25.2.2.2.2.2,0,0)))))) else (if r924.2=3 then (if 5=0 then (if r20=2 then ((D2.f k r21.2.2.2.1 a1 a3 a4 a5).bind fun r1325=>(if r1325.2.2=0 then (if -1<0 then (if r21.2.2.2.2.2=1000000000 then (if 7=0 then (some (o21 l0_0 l0_1 l0_2 l0_3 l0_4 (r21.1,r21.2.1,r21.2.2.1,r1325.1,r21.2.2.2.2.1,r21.2.2.2.2.2,r1325.2.1,0))) else ((D5.f l0_0 l0_1 l0_2 l0_3 l0_4 a0_5).bind fun r26=>(some (o21 l0_0 l0_1 l0_2 l0_3 l0_4 (r26.1,r26.2.1,r26.2.2.1,r26.2.2.2.1,r26.2.2.2.2.1,r26.2.2.2.2.2,0,7))))) else ((I7.f k r1325.1 a2 a3 (RowKit.wrap64 (r21.2.2.2.2.2+1)) a4 r1325.2.1).bind fun r111426=>(if r111426.2=0 then (if 0=0 then (some (o21 l0_0 l0_1 l0_2 l0_3 l0_4 (r21.1,r21.2.1,r21.2.2.1,r111426.1,r21.2.2.2.2.1,RowKit.wrap64 (r21.2.2.2.2.2+1),r1325.2.1,0))) else ((D5.f l0_0 l0_1 l0_2 l0_3 l0_4 a0_5).bind fun r27=>(some (o21 l0_0 l0_1 l0_2 l0_3 l0_4 (r27.1,r27.2.1,r27.2.2.1,r27.2.2.2.1,r27.2.2.2.2.1,r27.2.2.2.2.2,0,0))))) else (if 7=0 then (some (o21 l0_0 l0_1 l0_2 l0_3 l0_4 (r21.1,r21.2.1,r21.2.2.1,r1325.1,r21.2.2.2.2.1,r21.2.2.2.2.2,r1325.2.1,0))) else ((D5.f l0_0 l0_1 l0_2 l0_3 l0_4 a0_5).bind fun r27=>(some (o21 l0_0 l0_1 l0_2 l0_3 l0_4 (r27.1,r27.2.1,r27.2.2.1,r27.2.2.2.1,r27.2.2.2.2.1,r27.2.2.2.2.2,0,7)))))))) else (if r21.2.2.2.2.2=1000000000 then (if 7=0 then (some (o21 l0_0 l0_1 l0_2 l0_3 l0_4 (r21.1,r21.2.1,r21.2.2.1,r1325.1,r21.2.2.2.2.1,r21.2.2.2.2.2,r1325.2.1,0))) else ((D5.f l0_0 l0_1 l0_2 l0_3 l0_4 a0_5).bind fun r26=>(some (o21 l0_0 l0_1 l0_2 l0_3 l0_4 (r26.1,r26.2.1,r26.2.2.1,r26.2.2.2.1,r26.2.2.2.2.1,r26.2.2.2.2.2,0,7))))) else ((I7.f k r1325.1 a2 a3 (RowKit.wrap64 (r21.2.2.2.2.2+1)) a4 (-1)).bind fun r111426=>(if r111426.2=0 then (if 0=0 then (some (o21 l0_0 l0_1 l0_2 l0_3 l0_4 (r21.1,r21.2.1,r21.2.2.1,r111426.1,r21.2.2.2.2.1,RowKit.wrap64 (r21.2.2.2.2.2+1),r1325.2.1,0))) else ((D5.f l0_0 l0_1 l0_2 l0_3 l0_4 a0_5).bind fun r27=>(some (o21 l0_0 l0_1 l0_2 l0_3 l0_4 (r27.1,r27.2.1,r27.2.2.1,r27.2.2.2.1,r27.2.2.2.2.1,r27.2.2.2.2.2,0,0))))) else (if 7=0 then (some (o21 l0_0 l0_1 l0_2 l0_3 l0_4 (r21.1,r21.2.1,r21.2.2.1,r1325.1,r21.2.2.2.2.1,r21.2.2.2.2.2,r1325.2.1,0))) else ((D5.f l0_0 l0_1 l0_2 l0_3 l0_4 a0_5).bind fun r27=>(some (o21 l0_0 l0_1 l0_2 l0_3 l0_4 (r27.1,r27.2.1,r27.2.2.1,r27.2.2.2.1,r27.2.2.2.2.1,r27.2.2.2.2.2,0,7))))))))) else (if 5=0 then (some (o21 l0_0 l0_1 l0_2 l0_3 l0_4 (r21.1,r21.2.1,r21.2.2.1,r21.2.2.2.1,r21.2.2.2.2.1,r21.2.2.2.2.2,0,0))) else ((D5.f l0_0 l0_1 l0_2 l0_3 l0_4 a0_5).bind fun r26=>(some (o21 l0_0 l0_1 l0_2 l0_3 l0_4 (r26.1,r26.2.1,r26.2.2.1,r26.2.2.2.1,r26.2.2.2.2.1,r26.2.2.2.2.2,0,5))))))) else (if 5=0 then (some (o21 l0_0 l0_1 l0_2 l0_3 l0_4 (r21.1,r21.2.1,r21.2.2.1,r21.2.2.2.1,r21.2.2.2.2.1,r21.2.2.2.2.2,0,0))) else ((D5.f l0_0 l0_1 l0_2 l0_3 l0_4 a0_5).bind fun r25=>(some (o21 l0_0 l0_1 l0_2 l0_3 l0_4 (r25.1,r25.2.1,r25.2.2.1,r25.2.2.2.1,r25.2.2.2.2.1,r25.2.2.2.2.2,0,5)))))) else (if 5=0 then (some (o21 l0_0 l0_1 l0_2 l0_3 l0_4 (r21.1,r21.2.1,r21.2.2.1,r21.2.2.2.1,r21.2.2.2.2.1,r21.2.2.2.2.2,0,0))) else ((D5.f l0_0 l0_1 l0_2 l0_3 l0_4 a0_5).bind fun r25=>(some (o21 l0_0 l0_1 l0_2 l0_3 l0_4 (r25.1,r25.2.1,r25.2.2.1,r25.2.2.2.1,r25.2.2.2.2.1,r25.2.2.2.2.2,0,5)))))) else (if r924.2=4 then (if 8=0 then (if r20=2 then ((D2.f k r21.2.2.2.1 a1 a3 a4 a5).bind fun r1325=>(if r1325.2.2=0 then (if -1<0 then (if r21.2.2.2.2.2=1000000000 then (if 7=0 then (some (o21 l0_0 l0_1 l0_2 l0_3 l0_4 (r21.1,r21.2.1,r21.2.2.1,r1325.1,r21.2.2.2.2.1,r21.2.2.2.2.2,r1325.2.1,0))) else ((D5.f l0_0 l0_1 l0_2 l0_3 l0_4 a0_5).bind fun r26=>(some (o21 l0_0 l0_1 l0_2 l0_3 l0_4 (r26.1,r26.2.1,r26.2.2.1,r26.2.2.2.1,r26.2.2.2.2.1,r26.2.2.2.2.2,0,7))))) else ((I7.f k r1325.1 a2 a3 (RowKit.wrap64 (r21.2.2.2.2.2+1)) a4 r1325.2.1).bind fun r111426=>(if r111426.2=0 then (if 0=0 then (some (o21 l0_0 l0_1 l0_2 l0_3 l0_4 (r21.1,r21.2.1,r21.2.2.1,r111426.1,r21.2.2.2.2.1,RowKit.wrap64 (r21.2.2.2.2.2+1),r1325.2.1,0))) else ((D5.f l0_0 l0_1 l0_2 l0_3 l0_4 a0_5).bind fun r27=>(some (o21 l0_0 l0_1 l0_2 l0_3 l0_4 (r27.1,r27.2.1,r27.2.2.1,r27.2.2.2.1,r27.2.2.2.2.1,r27.2.2.2.2.2,0,0))))) else (if 7=0 then (some (o21 l0_0 l0_1 l0_2 l0_3 l0_4 (r21.1,r21.2.1,r21.2.2.1,r1325.1,r21.2.2.2.2.1,r21.2.2.2.2.2,r1325.2.1,0))) else ((D5.f l0_0 l0_1 l0_2 l0_3 l0_4 a0_5).bind fun r27=>(some (o21 l0_0 l0_1 l0_2 l0_3 l0_4 (r27.1,r27.2.1,r27.2.2.1,r27.2.2.2.1,r27.2.2.2.2.1,r27.2.2.2.2.2,0,7)))))))) else (if r21.2.2.2.2.2=1000000000 then (if 7=0 then (some (o21 l0_0 l0_1 l0_2 l0_3 l0_4 (r21.1,r21.2.1,r21.2.2.1,r1325.1,r21.2.2.2.2.1,r21.2.2.2.2.2,r1325.2.1,0))) else ((D5.f l0_0 l0_1 l0_2 l0_3 l0_4 a0_5).bind fun r26=>(some (o21 l0_0 l0_1 l0_2 l0_3 l0_4 (r26.1,r26.2.1,r26.2.2.1,r26.2.2.2.1,r26.2.2.2.2.1,r26.2.2.2.2.2,0,7))))) else ((I7.f k r1325.1 a2 a3 (RowKit.wrap64 (r21.2.2.2.2.2+1)) a4 (-1)).bind fun r111426=>(if r111426.2=0 then (if 0=0 then (some (o21 l0_0 l0_1 l0_2 l0_3 l0_4 (r21.1,r21.2.1,r21.2.2.1,r111426.1,r21.2.2.2.2.1,RowKit.wrap64 (r21.2.2.2.2.2+1),r1325.2.1,0))) else ((D5.f l0_0 l0_1 l0_2 l0_3 l0_4 a0_5).bind fun r27=>(some (o21 l0_0 l0_1 l0_2 l0_3 l0_4 (r27.1,r27.2.1,r27.2.2.1,r27.2.2.2.1,r27.2.2.2.2.1,r27.2.2.2.2.2,0,0))))) else (if 7=0 then (some (o21 l0_0 l0_1 l0_2 l0_3 l0_4 (r21.1,r21.2.1,r21.2.2.1,r1325.1,r21.2.2.2.2.1,r21.2.2.2.2.2,r1325.2.1,0))) else ((D5.f l0_0 l0_1 l0_2 l0_3 l0_4 a0_5).bind fun r27=>(some (o21 l0_0 l0_1 l0_2 l0_3 l0_4 (r27.1,r27.2.1,r27.2.2.1,r27.2.2.2.1,r27.2.2.2.2.1,r27.2.2.2.2.2,0,7))))))))) else (if 5=0 then (some (o21 l0_0 l0_1 l0_2 l0_3 l0_4 (r21.1,r21.2.1,r21.2.2.1,r21.2.2.2.1,r21.2.2.2.2.1,r21.2.2.2.2.2,0,0))) else ((D5.f l0_0 l0_1 l0_2 l0_3 l0_4 a0_5).bind fun r26=>(some (o21 l0_0 l0_1 l0_2 l0_3 l0_4 (r26.1,r26.2.1,r26.2.2.1,r26.2.2.2.1,r26.2.2.2.2.1,r26.2.2.2.2.2,0,5))))))) else (if 8=0 then (some (o21 l0_0 l0_1 l0_2 l0_3 l0_4 (r21.1,r21.2.1,r21.2.2.1,r21.2.2.2.1,r21.2.2.2.2.1,r21.2.2.2.2.2,0,0))) else ((D5.f l0_0 l0_1 l0_2 l0_3 l0_4 a0_5).bind fun r25=>(some (o21 l0_0 l0_1 l0_2 l0_3 l0_4 (r25.1,r25.2.1,r25.2.2.1,r25.2.2.2.1,r25.2.2.2.2.1,r25.2.2.2.2.2,0,8)))))) else (if 8=0 then (some (o21 l0_0 l0_1 l0_2 l0_3 l0_4 (r21.1,r21.2.1,r21.2.2.1,r21.2.2.2.1,r21.2.2.2.2.1,r21.2.2.2.2.2,0,0))) else ((D5.f l0_0 l0_1 l0_2 l0_3 l0_4 a0_5).bind fun r25=>(some (o21 l0_0 l0_1 l0_2 l0_3 l0_4 (r25.1,r25.2.1,r25.2.2.1,r25.2.2.2.1,r25.2.2.2.2.1,r25.2.2.2.2.2,0,8)))))) else (if 7=0 then (if r20=2 then ((D2.f k r21.2.2.2.1 a1 a3 a4 a5).bind fun r1325=>(if r1325.2.2=0 then (if -1<0 then (if r21.2.2.2.2.2=1000000000 then (if 7=0 then (some (o21 l0_0 l0_1 l0_2 l0_3 l0_4 (r21.1,r21.2.1,r21.2.2.1,r1325.1,r21.2.2.2.2.1,r21.2.2.2.2.2,r1325.2.1,0))) else ((D5.f l0_0 l0_1 l0_2 l0_3 l0_4 a0_5).bind fun r26=>(some (o21 l0_0 l0_1 l0_2 l0_3 l0_4 (r26.1,r26.2.1,r26.2.2.1,r26.2.2.2.1,r26.2.2.2.2.1,r26.2.2.2.2.2,0,7))))) else ((I7.f k r1325.1 a2 a3 (RowKit.wrap64 (r21.2.2.2.2.2+1)) a4 r1325.2.1).bind fun r111426=>(if r111426.2=0 then (if 0=0 then (some (o21 l0_0 l0_1 l0_2 l0_3 l0_4 (r21.1,r21.2.1,r21.2.2.1,r111426.1,r21.2.2.2.2.1,RowKit.wrap64 (r21.2.2.2.2.2+1),r1325.2.1,0))) else ((D5.f l0_0 l0_1 l0_2 l0_3 l0_4 a0_5).bind fun r27=>(some (o21 l0_0 l0_1 l0_2 l0_3 l0_4 (r27.1,r27.2.1,r27.2.2.1,r27.2.2.2.1,r27.2.2.2.2.1,r27.2.2.2.2.2,0,0))))) else (if 7=0 then (some (o21 l0_0 l0_1 l0_2 l0_3 l0_4 (r21.1,r21.2.1,r21.2.2.1,r1325.1,r21.2.2.2.2.1,r21.2.2.2.2.2,r1325.2.1,0))) else ((D5.f l0_0 l0_1 l0_2 l0_3 l0_4 a0_5).bind fun r27=>(some (o21 l0_0 l0_1 l0_2 l0_3 l0_4 (r27.1,r27.2.1,r27.2.2.1,r27.2.2.2.1,r27.2.2.2.2.1,r27.2.2.2.2.2,0,7)))))))) else (if r21.2.2.2.2.2=1000000000 then (if 7=0 then (some (o21 l0_0 l0_1 l0_2 l0_3 l0_4 (r21.1,r21.2.1,r21.2.2.1,r1325.1,r21.2.2.2.2.1,r21.2.2.2.2.2,r1325.2.1,0))) else ((D5.f l0_0 l0_1 l0_2 l0_3 l0_4 a0_5).bind fun r26=>(some (o21 l0_0 l0_1 l0_2 l0_3 l0_4 (r26.1,r26.2.1,r26.2.2.1,r26.2.2.2.1,r26.2.2.2.2.1,r26.2.2.2.2.2,0,7))))) else ((I7.f k r1325.1 a2 a3 (RowKit.wrap64 (r21.2.2.2.2.2+1)) a4 (-1)).bind fun r111426=>(if r111426.2=0 then (if 0=0 then (some (o21 l0_0 l0_1 l0_2 l0_3 l0_4 (r21.1,r21.2.1,r21.2.2.1,r111426.1,r21.2.2.2.2.1,RowKit.wrap64 (r21.2.2.2.2.2+1),r1325.2.1,0))) else ((D5.f l0_0 l0_1 l0_2 l0_3 l0_4 a0_5).bind fun r27=>(some (o21 l0_0 l0_1 l0_2 l0_3 l0_4 (r27.1,r27.2.1,r27.2.2.1,r27.2.2.2.1,r27.2.2.2.2.1,r27.2.2.2.2.2,0,0))))) else (if 7=0 then (some (o21 l0_0 l0_1 l0_2 l0_3 l0_4 (r21.1,r21.2.1,r21.2.2.1,r1325.1,r21.2.2.2.2.1,r21.2.2.2.2.2,r1325.2.1,0))) else ((D5.f l0_0 l0_1 l0_2 l0_3 l0_4 a0_5).bind fun r27=>(some (o21 l0_0 l0_1 l0_2 l0_3 l0_4 (r27.1,r27.2.1,r27.2.2.1,r27.2.2.2.1,r27.2.2.2.2.1,r27.2.2.2.2.2,0,7))))))))) else (if 5=0 then (some (o21 l0_0 l0_1 l0_2 l0_3 l0_4 (r21.1,r21.2.1,r21.2.2.1,r21.2.2.2.1,r21.2.2.2.2.1,r21.2.2.2.2.2,0,0))) else ((D5.f l0_0 l0_1 l0_2 l0_3 l0_4 a0_5).bind fun r26=>(some (o21 l0_0 l0_1 l0_2 l0_3 l0_4 (r26.1,r26.2.1,r26.2.2.1,r26.2.2.2.1,r26.2.2.2.2.1,r26.2.2.2.2.2,0,5))))))) else (if 7=0 then (some (o21 l0_0 l0_1 l0_2 l0_3 l0_4 (r21.1,r21.2.1,r21.2.2.1,r21.2.2.2.1,r21.2.2.2.2.1,r21.2.2.2.2.2,0,0))) else ((D5.f l0_0 l0_1 l0_2 l0_3 l0_4 a0_5).bind fun r25=>(some (o21 l0_0 l0_1 l0_2 l0_3 l0_4 (r25.1,r25.2.1,r25.2.2.1,r25.2.2.2.1,r25.2.2.2.2.1,r25.2.2.2.2.2,0,7)))))) else (if 7=0 then (some (o21 l0_0 l0_1 l0_2 l0_3 l0_4 (r21.1,r21.2.1,r21.2.2.1,r21.2.2.2.1,r21.2.2.2.2.1,r21.2.2.2.2.2,0,0))) else ((D5.f l0_0 l0_1 l0_2 l0_3 l0_4 a0_5).bind fun r25=>(some (o21 l0_0 l0_1 l0_2 l0_3 l0_4 (r25.1,r25.2.1,r25.2.2.1,r25.2.2.2.1,r25.2.2.2.2.1,r25.2.2.2.2.2,0,7)))))))))))))) else ((D5.f l0_0 l0_1 l0_2 l0_3 l0_4 a0_5).bind fun r21=>(some (o21 l0_0 l0_1 l0_2 l0_3 l0_4 (r21.1,r21.2.1,r21.2.2.1,r21.2.2.2.1,r21.2.2.2.2.1,r21.2.2.2.2.2,0,4))))) else ((D5.f l0_0 l0_1 l0_2 l0_3 l0_4 a0_5).bind fun r21=>(some (o21 l0_0 l0_1 l0_2 l0_3 l0_4 (r21.1,r21.2.1,r21.2.2.1,r21.2.2.2.1,r21.2.2.2.2.1,r21.2.2.2.2.2,0,4))))))))))) else (some (o21 l0_0 l0_1 l0_2 l0_3 l0_4 ([],[],[],[],[],0,0,1))))) else (some (o21 l0_0 l0_1 l0_2 l0_3 l0_4 ([],[],[],[],[],0,0,1))))) else (some (o21 l0_0 l0_1 l0_2 l0_3 l0_4 ([],[],[],[],[],0,0,1))))) else (some (o21 l0_0 l0_1 l0_2 l0_3 l0_4 ([],[],[],[],[],0,0,1))))) else (some (o21 l0_0 l0_1 l0_2 l0_3 l0_4 ([],[],[],[],[],0,0,1))))) else (some (o21 l0_0 l0_1 l0_2 l0_3 l0_4 ([],[],[],[],[],0,0,1)))))) (by kernel_rfl) (by unfold Y0.f;exact lon_))
 · cases e
def o89 (l0:List S80) (r:Bool):Out Rw:=⟨[.c (.sc (.b r))],[.rows 0 (.e80 l0)]⟩
def Q89:Mean Rw:=fun k a h Z K=>match a,h with
 | [.w (.c (.rw 0))],[.rows 0 (.e80 l0)]=>(H4.f k l0).bind fun r=>K (o89 l0 r)
 | _,_=>none
def q89:Cal Rw:=⟨89,false,Q89⟩
def O89:List (Cal Rw):=[q38,q59]
def C1m:Nat→St Rw→Option (Out Rw):=fun k st=>match st with
 | ⟨41,1,1,[(0,.w (.c (.rw 0))),(5,.w (.c (.rw 0))),(6,.w (.c (.sc (.i .i64 x6)))),(7,.w (.c (.sc (.i .i64 x7))))],[(0,.rows 0 (.e80 l0))]⟩=>(H4.l0 k l0 l0 x6 x7).bind fun r=>some (o89 l0 r)
 | _=>none
def K89:List (Cut Rw):=[⟨[false,true,false,true],[0,5,6,7],C1m⟩]
theorem D3j:HH Tryz.prog O89 K89 Tryz.f89 [false,true,false,true] C1m:=fun k st out h=>by
 unfold C1m at h;split at h
 · rename_i x6 x7 l0
   exact Lo.of (b:=(if x7<x6 then (if 0≤x7 then (if x7<(l0.length:Int) then ((I5.f (M2 l0 x7).f0).bind fun r4=>(if r4=true then ((J7.f (M2 l0 x7).f1 1 4).bind fun r5=>(if r5=true then (if x7>0 then (if 0≤RowKit.wrap64 (x7-1) then (if RowKit.wrap64 (x7-1)<(l0.length:Int) then (if (M2 l0 (RowKit.wrap64 (x7-1))).f0≥(M2 l0 x7).f0 then (some (o89 l0 false)) else ((H4.l0 k l0 l0 x6 (RowKit.wrap64 (x7+1))).bind fun r=>some (o89 l0 r))) else none) else none) else ((H4.l0 k l0 l0 x6 (RowKit.wrap64 (x7+1))).bind fun r=>some (o89 l0 r))) else (some (o89 l0 false)))) else (some (o89 l0 false)))) else none) else none) else (some (o89 l0 (decide ((l0.length:Int)≤20)))))) (by kernel_rfl) (by rw [H4.l0];exact lo_) _ h
 · cases h
theorem d89:G8 Tryz.prog q89:=fn_d (O:=O89) (cs:=K89) (C0 d38 (C0 d59 nil_)) mixed Tryz.func89 (C0 (fun st=>by show C1m 0 st=none;unfold C1m;split<;>rfl) nil_) (C0 D3j nil_) fun k a h Z K z e=>by
 unfold Q89 at e;split at e
 · rename_i l0
   exact ent e (Lo.of (b:=((H4.l0 k l0 l0 ((l0.length:Int)) 0).bind fun r=>some (o89 l0 r))) (by kernel_rfl) (by unfold H4.f;exact lo_))
 · cases e
end
end Go.Proofs.YtmfgajbkcnlkcaaGreat.AI
namespace Go.Proofs.YtmfgajbkcnlkcaaGreat.P
open Go Go.Proofs.YtmfgajbkcnlkcaaGreat.AI Go.RowKit Go.Proofs.YtmfgajbkcnlkcaaGreatW.PrintWords Go.Proofs.YtmfgajbkcnlkcaaGreat.P
set_option linter.unusedVariables false
set_option linter.all false
set_option maxRecDepth 100000
set_option maxHeartbeats 4000000
noncomputable section
theorem W3.calls (a0_0:Int) (a0_1:Int) (a0_2:Int) (a0_3:Int) (a0_4:Int) (a1:Int) (a2:Int) (r:Bool) (w:World) (h:W3.f a0_0 a0_1 a0_2 a0_3 a0_4 a1 a2=some r) :
 Calls Tryz.prog 171 #[.agg #[.int .i64 a0_0,.int .i64 a0_1,.int .i64 a0_2,.int .i64 a0_3,.int .i64 a0_4],.int .i64 a1,.int .i64 a2] w fun e w'=>e = .returned (.bool r)∧Below w.heap.size w w':=by
 let G:Nat→Value:=fun i=>match i with
  | _=>undef
 have hA:A0h (R:=Rw) Tryz.prog w G [.w (.ag [.sc (.i .i64 a0_0),.sc (.i .i64 a0_1),.sc (.i .i64 a0_2),.sc (.i .i64 a0_3),.sc (.i .i64 a0_4)]),.w (.c (.sc (.i .i64 a1))),.w (.c (.sc (.i .i64 a2)))] []:=A2c (by simp [isRo]) (by simp [idsV,idsW,idsC,EpOK]) fun i b hb=>by
  match i,hb with
  | _,hb=>simp at hb
 have hq:=A0m (out:=o171 r) (by simp [isRo]) (by simp [o171,idsW,idsC]) (A1x d171 (k:=0) (by show (W3.f a0_0 a0_1 a0_2 a0_3 a0_4 a1 a2).bind _=_;rw [h];rfl)) hA
 have hv:(List.map (H7 G) [.w (.ag [.sc (.i .i64 a0_0),.sc (.i .i64 a0_1),.sc (.i .i64 a0_2),.sc (.i .i64 a0_3),.sc (.i .i64 a0_4)]),.w (.c (.sc (.i .i64 a1))),.w (.c (.sc (.i .i64 a2)))]).toArray=#[.agg #[.int .i64 a0_0,.int .i64 a0_1,.int .i64 a0_2,.int .i64 a0_3,.int .i64 a0_4],.int .i64 a1,.int .i64 a2]:=by simp [H7,O4,conc,Sc.v]
 rw [hv] at hq
 exact hq
theorem L3.calls (k:Nat) (a0_0:Int) (a0_1:Int) (a0_2:Int) (a0_3:Int) (a0_4:Int) (a1_0:Int) (a1_1:Int) (a1_2:Int) (a1_3:Int) (a1_4:Int) (r:Int) (w:World) (h:L3.f k a0_0 a0_1 a0_2 a0_3 a0_4 a1_0 a1_1 a1_2 a1_3 a1_4=some r) :
 Calls Tryz.prog 133 #[.agg #[.int .i64 a0_0,.int .i64 a0_1,.int .i64 a0_2,.int .i64 a0_3,.int .i64 a0_4],.agg #[.int .i64 a1_0,.int .i64 a1_1,.int .i64 a1_2,.int .i64 a1_3,.int .i64 a1_4]] w fun e w'=>e = .returned (.int .i64 r)∧Below w.heap.size w w':=by
 let G:Nat→Value:=fun i=>match i with
  | _=>undef
 have hA:A0h (R:=Rw) Tryz.prog w G [.w (.ag [.sc (.i .i64 a0_0),.sc (.i .i64 a0_1),.sc (.i .i64 a0_2),.sc (.i .i64 a0_3),.sc (.i .i64 a0_4)]),.w (.ag [.sc (.i .i64 a1_0),.sc (.i .i64 a1_1),.sc (.i .i64 a1_2),.sc (.i .i64 a1_3),.sc (.i .i64 a1_4)])] []:=A2c (by simp [isRo]) (by simp [idsV,idsW,idsC,EpOK]) fun i b hb=>by
  match i,hb with
  | _,hb=>simp at hb
 have hq:=A0m (out:=o133 r) (by simp [isRo]) (by simp [o133,idsW,idsC]) (A1x d133 (k:=k) (by show (L3.f k a0_0 a0_1 a0_2 a0_3 a0_4 a1_0 a1_1 a1_2 a1_3 a1_4).bind _=_;rw [h];rfl)) hA
 have hv:(List.map (H7 G) [.w (.ag [.sc (.i .i64 a0_0),.sc (.i .i64 a0_1),.sc (.i .i64 a0_2),.sc (.i .i64 a0_3),.sc (.i .i64 a0_4)]),.w (.ag [.sc (.i .i64 a1_0),.sc (.i .i64 a1_1),.sc (.i .i64 a1_2),.sc (.i .i64 a1_3),.sc (.i .i64 a1_4)])]).toArray=#[.agg #[.int .i64 a0_0,.int .i64 a0_1,.int .i64 a0_2,.int .i64 a0_3,.int .i64 a0_4],.agg #[.int .i64 a1_0,.int .i64 a1_1,.int .i64 a1_2,.int .i64 a1_3,.int .i64 a1_4]]:=by simp [H7,O4,conc,Sc.v]
 rw [hv] at hq
 exact hq
theorem R9.calls (a0_0:Int) (a0_1:Int) (a0_2:Int) (a0_3:Int) (a0_4:Int) (r:Bool) (w:World) (h:R9.f a0_0 a0_1 a0_2 a0_3 a0_4=some r) :
 Calls Tryz.prog 132 #[.agg #[.int .i64 a0_0,.int .i64 a0_1,.int .i64 a0_2,.int .i64 a0_3,.int .i64 a0_4]] w fun e w'=>e = .returned (.bool r)∧Below w.heap.size w w':=by
 let G:Nat→Value:=fun i=>match i with
  | _=>undef
 have hA:A0h (R:=Rw) Tryz.prog w G [.w (.ag [.sc (.i .i64 a0_0),.sc (.i .i64 a0_1),.sc (.i .i64 a0_2),.sc (.i .i64 a0_3),.sc (.i .i64 a0_4)])] []:=A2c (by simp [isRo]) (by simp [idsV,idsW,idsC,EpOK]) fun i b hb=>by
  match i,hb with
  | _,hb=>simp at hb
 have hq:=A0m (out:=o132 r) (by simp [isRo]) (by simp [o132,idsW,idsC]) (A1x d132 (k:=0) (by show (R9.f a0_0 a0_1 a0_2 a0_3 a0_4).bind _=_;rw [h];rfl)) hA
 have hv:(List.map (H7 G) [.w (.ag [.sc (.i .i64 a0_0),.sc (.i .i64 a0_1),.sc (.i .i64 a0_2),.sc (.i .i64 a0_3),.sc (.i .i64 a0_4)])]).toArray=#[.agg #[.int .i64 a0_0,.int .i64 a0_1,.int .i64 a0_2,.int .i64 a0_3,.int .i64 a0_4]]:=by simp [H7,O4,conc,Sc.v]
 rw [hv] at hq
 exact hq
theorem H3.calls (k:Nat) (A0:Option Addr) (c0:Nat) (l0:List (S110)) (r1:Int) (r2:Int) (w:World) (hr0:Kd.C k110 w A0 l0.length l0) (hc0:l0.length≤c0) (h:H3.f k l0=some (r1,r2)) :
 Calls Tryz.prog 136 #[.slice A0 l0.length c0] w fun e w'=>e = .returned (.tuple #[.int .i64 r1,.int .i64 r2])∧Below w.heap.size w w':=by
 let G:Nat→Value:=fun i=>match i with
  | 0=>.slice A0 l0.length c0
  | _=>undef
 have hA:A0h (R:=Rw) Tryz.prog w G [.w (.c (.rw 0))] [.rows 0 (.e110 l0)]:=A2c (by simp [isRo]) (by simp [idsV,idsW,idsC,EpOK]) fun i b hb=>by
  match i,hb with
  | 0,hb=>obtain rfl:=Option.some.inj hb;exact B0a.2 ⟨_,_,rfl,hc0,hr0⟩
  | _+1,hb=>simp at hb
 have hq:=A0m (out:=o136 l0 (r1,r2)) (by simp [isRo]) (by simp [o136,idsW,idsC]) (A1x d136 (k:=k) (by show (H3.f k l0).bind _=_;rw [h];rfl)) hA
 have hv:(List.map (H7 G) [.w (.c (.rw 0))]).toArray=#[.slice A0 l0.length c0]:=by simp [H7,O4,conc,Sc.v,G]
 rw [hv] at hq
 exact hq
theorem D3.calls (k:Nat) (A0:Option Addr) (c0:Nat) (l0:List (S80)) (a1:Int) (r:Int) (w:World) (hr0:Kd.C k80 w A0 l0.length l0) (hc0:l0.length≤c0) (h:D3.f k l0 a1=some r) :
 Calls Tryz.prog 108 #[.slice A0 l0.length c0,.int .i64 a1] w fun e w'=>e = .returned (.int .i64 r)∧Below w.heap.size w w':=by
 let G:Nat→Value:=fun i=>match i with
  | 0=>.slice A0 l0.length c0
  | _=>undef
 have hA:A0h (R:=Rw) Tryz.prog w G [.w (.c (.rw 0)),.w (.c (.sc (.i .i64 a1)))] [.rows 0 (.e80 l0)]:=A2c (by simp [isRo]) (by simp [idsV,idsW,idsC,EpOK]) fun i b hb=>by
  match i,hb with
  | 0,hb=>obtain rfl:=Option.some.inj hb;exact ro80.2 ⟨_,_,rfl,hc0,hr0⟩
  | _+1,hb=>simp at hb
 have hq:=A0m (out:=o108 l0 r) (by simp [isRo]) (by simp [o108,idsW,idsC]) (A1x d108 (k:=k) (by show (D3.f k l0 a1).bind _=_;rw [h];rfl)) hA
 have hv:(List.map (H7 G) [.w (.c (.rw 0)),.w (.c (.sc (.i .i64 a1)))]).toArray=#[.slice A0 l0.length c0,.int .i64 a1]:=by simp [H7,O4,conc,Sc.v,G]
 rw [hv] at hq
 exact hq
theorem E8.calls (k:Nat) (A0:Option Addr) (c0:Nat) (l0:List (S84)) (a1:Int) (r:Int) (w:World) (hr0:Kd.C k84 w A0 l0.length l0) (hc0:l0.length≤c0) (h:E8.f k l0 a1=some r) :
 Calls Tryz.prog 110 #[.slice A0 l0.length c0,.int .i64 a1] w fun e w'=>e = .returned (.int .i64 r)∧Below w.heap.size w w':=by
 let G:Nat→Value:=fun i=>match i with
  | 0=>.slice A0 l0.length c0
  | _=>undef
 have hA:A0h (R:=Rw) Tryz.prog w G [.w (.c (.rw 0)),.w (.c (.sc (.i .i64 a1)))] [.rows 0 (.e84 l0)]:=A2c (by simp [isRo]) (by simp [idsV,idsW,idsC,EpOK]) fun i b hb=>by
  match i,hb with
  | 0,hb=>obtain rfl:=Option.some.inj hb;exact ro84.2 ⟨_,_,rfl,hc0,hr0⟩
  | _+1,hb=>simp at hb
 have hq:=A0m (out:=o110 l0 r) (by simp [isRo]) (by simp [o110,idsW,idsC]) (A1x d110 (k:=k) (by show (E8.f k l0 a1).bind _=_;rw [h];rfl)) hA
 have hv:(List.map (H7 G) [.w (.c (.rw 0)),.w (.c (.sc (.i .i64 a1)))]).toArray=#[.slice A0 l0.length c0,.int .i64 a1]:=by simp [H7,O4,conc,Sc.v,G]
 rw [hv] at hq
 exact hq
theorem M0.calls (k:Nat) (A0:Option Addr) (c0:Nat) (l0:List (S106)) (a1:Int) (a2:Int) (r1:Int) (r2:Bool) (w:World) (hr0:Kd.C k106 w A0 l0.length l0) (hc0:l0.length≤c0) (h:M0.f k l0 a1 a2=some (r1,r2)) :
 Calls Tryz.prog 172 #[.slice A0 l0.length c0,.int .i64 a1,.int .i64 a2] w fun e w'=>e = .returned (.tuple #[.int .i64 r1,.bool r2])∧Below w.heap.size w w':=by
 let G:Nat→Value:=fun i=>match i with
  | 0=>.slice A0 l0.length c0
  | _=>undef
 have hA:A0h (R:=Rw) Tryz.prog w G [.w (.c (.rw 0)),.w (.c (.sc (.i .i64 a1))),.w (.c (.sc (.i .i64 a2)))] [.rows 0 (.e106 l0)]:=A2c (by simp [isRo]) (by simp [idsV,idsW,idsC,EpOK]) fun i b hb=>by
  match i,hb with
  | 0,hb=>obtain rfl:=Option.some.inj hb;exact C3q.2 ⟨_,_,rfl,hc0,hr0⟩
  | _+1,hb=>simp at hb
 have hq:=A0m (out:=o172 l0 (r1,r2)) (by simp [isRo]) (by simp [o172,idsW,idsC]) (A1x d172 (k:=k) (by show (M0.f k l0 a1 a2).bind _=_;rw [h];rfl)) hA
 have hv:(List.map (H7 G) [.w (.c (.rw 0)),.w (.c (.sc (.i .i64 a1))),.w (.c (.sc (.i .i64 a2)))]).toArray=#[.slice A0 l0.length c0,.int .i64 a1,.int .i64 a2]:=by simp [H7,O4,conc,Sc.v,G]
 rw [hv] at hq
 exact hq
theorem S0.calls (a0_0:Int) (a0_1:Int) (a0_2:Int) (r:Bool) (w:World) (h:S0.f a0_0 a0_1 a0_2=some r) :
 Calls Tryz.prog 176 #[.agg #[.int .i64 a0_0,.int .i64 a0_1,.int .i64 a0_2]] w fun e w'=>e = .returned (.bool r)∧Below w.heap.size w w':=by
 let G:Nat→Value:=fun i=>match i with
  | _=>undef
 have hA:A0h (R:=Rw) Tryz.prog w G [.w (.ag [.sc (.i .i64 a0_0),.sc (.i .i64 a0_1),.sc (.i .i64 a0_2)])] []:=A2c (by simp [isRo]) (by simp [idsV,idsW,idsC,EpOK]) fun i b hb=>by
  match i,hb with
  | _,hb=>simp at hb
 have hq:=A0m (out:=o176 r) (by simp [isRo]) (by simp [o176,idsW,idsC]) (A1x d176 (k:=0) (by show (S0.f a0_0 a0_1 a0_2).bind _=_;rw [h];rfl)) hA
 have hv:(List.map (H7 G) [.w (.ag [.sc (.i .i64 a0_0),.sc (.i .i64 a0_1),.sc (.i .i64 a0_2)])]).toArray=#[.agg #[.int .i64 a0_0,.int .i64 a0_1,.int .i64 a0_2]]:=by simp [H7,O4,conc,Sc.v]
 rw [hv] at hq
 exact hq
end
end Go.Proofs.YtmfgajbkcnlkcaaGreat.P
