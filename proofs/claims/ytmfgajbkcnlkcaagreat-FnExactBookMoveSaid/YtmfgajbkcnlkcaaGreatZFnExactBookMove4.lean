/- What the law FnExactBookMove leans on, cut out of this repo's own texts by a program of this repo: plain functions, the walks that tie the Go calls to them, the law over lists and numbers, and the row. -/
import Derived.Test.YtmfgajbkcnlkcaaGreatZFnExactBookMove3
set_option maxHeartbeats 8000000
set_option maxRecDepth 100000
namespace Go.Proofs.YtmfgajbkcnlkcaaGreat
section
open Go Go.RowKit Go.Proofs.YtmfgajbkcnlkcaaGreatW.PrintWords Go.Proofs.YtmfgajbkcnlkcaaGreatW.PrintLast Go.Proofs.YtmfgajbkcnlkcaaGreatW.PrintMore
theorem bb_ {p:Prop} (h:p:=by repeat (first | (with_reducible first | exact HB.out | apply I8 | apply Q2 | apply Q5) | exact HB.out)):p:=h
theorem bc_ {p:Prop} (h:p:=by (try simp only [List.map_toArray,List.map_cons,List.map_nil]);first | done | rfl | (simp only [List.length_drop,List.length_take];rfl)):p:=h
theorem sp_ {p:Prop} (h:p:=by simp only [Act.put,List.setIfInBounds_toArray,List.set_cons_zero,List.set_cons_succ,A2z,A7a];rfl):p:=h
theorem od_ {p:Prop} [Decidable p] (h:decide p=true:=by first | (with_reducible assumption) | assumption):p:=of_decide_eq_true h
theorem kr_ {p:Prop} (h:p:=by kernel_rfl):p:=h
theorem er_ {p:Prop} (h:p:=by first | rfl | (simp [B1b,B1a]<;>rfl) | (simp [*,B1b,B1a]<;>rfl)):p:=h
theorem bg_ {q p:Prop} (g:q) (h:q→p:=by intro g_;repeat (first | (with_reducible first | exact HB.out | apply I8 | apply Q2 | apply Q5 | refine A6p ?_ g_) | exact HB.out)):p:=h g
theorem pe_ {q p:Prop} (g:q) (h:q→p:=by intro g_;(with_reducible repeat (first | apply Kd.R_alloc | apply Kd.R_drewN | apply Kd.R_drew));exact g_):p:=h g
theorem pb_ {q p:Prop} (g:q) (h:q→p:=by intro g_;(with_reducible repeat (first | refine A6n ?_ _ | refine A0n ?_ | refine A6o ?_ _));exact g_):p:=h g
theorem cl_ {w W:World} {p:Addr} {v:Value} (hb:Below w.heap.size w W) (h:w.cell? p=some v):W.cell? p=some v:=(hb.cell (World.block_lt_of_cell? w _ h)).trans h
def ba_ (n m:Nat):Array Bool:=((List.range n).map fun i=>m.testBit i).toArray
theorem pu_ {P:Program} {ops:Array Oper} {Q:Exit→Act→World→Prop} {md:Region.Mode} {S:World→Prop} {ds:List Nat} {fuel:Nat} {l:Array Bool} {a a':Act} {w:World} {T:Bool×List (List Nat×List Nat)} {oi:Oper} {v:Value} (i n:Nat) (hT:rtab md ops=T) (l':Array Bool) (h:J3 P md ops Q S ds fuel l' a' w) (hi:ops[i]? = some oi:=by rfl) (hN:oi.dst=some n:=by rfl) (hc:anyT T l.toList l'.toList i=true:=by kernel_rfl) (hQ:∀ c a w,Q (.panic c) (a.put oi.dst v) w→Q (.panic c) a w:=by exact fun _ _ _ h=>h) (hw:Region.wanted oi (yielded ops a.tmps)=true:=by rfl) (hv:∀ w',(execOp a.eval oi).run P w' = .ok (.value v) w':=by intro w';go_simp;with_reducible rfl) (ha:a.put (some n) v=a':=by simp only [Act.put,List.setIfInBounds_toArray,List.set_cons_zero,List.set_cons_succ,A2z,A7a];rfl):J3 P md ops Q S ds (fuel+1) l a w:=B0i l' hi hN (C6a hT hc) hQ (Or.inl ⟨hw,hv⟩) ha h
theorem sk_ {P:Program} {ops:Array Oper} {Q:Exit→Act→World→Prop} {md:Region.Mode} {S:World→Prop} {ds:List Nat} {fuel:Nat} {l:Array Bool} {a a':Act} {w:World} {T:Bool×List (List Nat×List Nat)} {oi:Oper} (i n:Nat) (hT:rtab md ops=T) (l':Array Bool) (h:J3 P md ops Q S ds fuel l' a' w) (hi:ops[i]? = some oi:=by rfl) (hN:oi.dst=some n:=by rfl) (hc:anyT T l.toList l'.toList i=true:=by kernel_rfl) (hQ:∀ c a w,Q (.panic c) (a.put oi.dst undef) w→Q (.panic c) a w:=by exact fun _ _ _ h=>h) (hw:Region.wanted oi (yielded ops a.tmps)=false:=by rfl) (ha:a.put (some n) undef=a':=by simp only [Act.put,List.setIfInBounds_toArray,List.set_cons_zero,List.set_cons_succ,A2z,A7a];rfl):J3 P md ops Q S ds (fuel+1) l a w:=B0i l' hi hN (C6a hT hc) hQ (Or.inr ⟨hw,rfl⟩) ha h
theorem ta_ {P:Program} {ops:Array Oper} {Q:Exit→Act→World→Prop} {md:Region.Mode} {S:World→Prop} {ds:List Nat} {fuel:Nat} {l:Array Bool} {a a':Act} {w:World} {T:Bool×List (List Nat×List Nat)} {B:List Nat} {oi:Oper} {v:Value} (i n:Nat) (hT:rtab md ops=T) (hW:A3e T.2 B=true) (hS:S w) (l':Array Bool) (h:J3 P md ops Q S ds fuel l' a' w) (hi:ops[i]? = some oi:=by rfl) (hN:oi.dst=some n:=by rfl) (hc:C6l T B ds l.toList l'.toList i=true:=by kernel_rfl) (hQ:∀ c a w,Q (.panic c) (a.put oi.dst v) w→Q (.panic c) a w:=by exact fun _ _ _ h=>h) (hw:Region.wanted oi (yielded ops a.tmps)=true:=by rfl) (hv:∀ w',S w'→(execOp a.eval oi).run P w' = .ok (.value v) w':=by intro w' hs_;(try dsimp only at hs_);(repeat (obtain ⟨s_,hs_⟩:=hs_));go_simp;with_reducible rfl) (ha:a.put (some n) v=a':=by simp only [Act.put,List.setIfInBounds_toArray,List.set_cons_zero,List.set_cons_succ,A2z,A7a];rfl):J3 P md ops Q S ds (fuel+1) l a w:=C6k l' hi hN (C3l hT hW hc) hQ (Or.inl ⟨hw,hv⟩) hS ha h
theorem be_ {P:Program} {ops:Array Oper} {Q:Exit→Act→World→Prop} {rest:List Oper} {o:Oper} {a:Act} {W:World} (N:Nat) {cs:Array Value} {t:TypeId} (h:∀ g,g=W.heap.size→∀ w1,w1.heap[g]? = some (.cells cs t (0,0))→Below W.heap.size W w1→wpList P ops Q rest (a.put o.dst (.pointer (some ⟨g,0,none⟩))) w1) (hd:o.dst=some N:=by rfl) (hg:o.guard=none:=by rfl) (hr:(execOp a.eval o).run P W = .ok (.value (.pointer (some ⟨W.heap.size,0,none⟩))) (W.alloc (.cells cs t (0,0))):=by first | (go_simp;done) | (go_simp;rfl)):wpList P ops Q (o::rest) a W:=C0l hg hd hr h
theorem ce5_ {w:World} {g:Nat} {t:TypeId} {v0 v1 v2 v3 v4:Value} (h:w.heap[g]? = some (.cells #[v0,v1,v2,v3,v4] t (0,0))):w.cell? ⟨g,0,none⟩=some v0∧w.cell? ⟨g,1,none⟩=some v1∧w.cell? ⟨g,2,none⟩=some v2∧w.cell? ⟨g,3,none⟩=some v3∧w.cell? ⟨g,4,none⟩=some v4∧w.frozen? ⟨g,0,none⟩=false∧w.frozen? ⟨g,1,none⟩=false∧w.frozen? ⟨g,2,none⟩=false∧w.frozen? ⟨g,3,none⟩=false∧w.frozen? ⟨g,4,none⟩=false:=⟨(C4 h 0).trans rfl,(C4 h 1).trans rfl,(C4 h 2).trans rfl,(C4 h 3).trans rfl,(C4 h 4).trans rfl,Q6 h 0,Q6 h 1,Q6 h 2,Q6 h 3,Q6 h 4⟩
theorem nf_:¬ (false=true):=by decide
theorem rh_ {α:Type} {y v:α} {p q:Prop} (e:y=v) (H:p) (h:y=v→p→q:=by intro e_ H_;first | (rw [e_];with_reducible exact H_) | (have H2_:=(Option.bind_some _ _).symm.trans H_;rw [e_];with_reducible exact H2_) | (have H2_:=(Option.bind_some _ _).symm.trans H_;with_reducible exact H2_) | with_reducible exact H_ | (rw [e_];exact H_) | exact H_):q:=h e H
theorem rj_ {α:Type} {y v:α} {p q:Prop} (e:y=v) (H:p) (h:y=v→p→q:=by intro e_ H_;first | (rw [e_] at H_;exact H_) | (simp only [e_] at H_ ⊢;exact H_)):q:=h e H
theorem dr_ {p:Prop} (h:p:=by repeat (first | exact A0g.refl _ | apply A0g.step)):p:=h
theorem rs_ {p:Prop} (h:p:=by first | rfl | (simp;done) | (simp [*];done)):p:=h
theorem le_ {p:Prop} (h:p:=by first | omega | exact Nat.le_refl _):p:=h
theorem cc_ {q p:Prop} (g:q) (h:q→p:=by intro g_;repeat (first | exact g_ | (with_reducible refine Kd.C_alloc ?_ _) | (with_reducible refine Kd.C_drewN ?_ _) | (with_reducible refine Kd.C_drew ?_))):p:=h g
theorem as2_ {p0 p1:Prop} (x0:p0) (x1:p1):B0 p0∧B0 p1:=⟨⟨x0⟩,⟨x1⟩⟩
theorem as3_ {p0 p1 p2:Prop} (x0:p0) (x1:p1) (x2:p2):B0 p0∧B0 p1∧B0 p2:=⟨⟨x0⟩,⟨x1⟩,⟨x2⟩⟩
theorem as4_ {p0 p1 p2 p3:Prop} (x0:p0) (x1:p1) (x2:p2) (x3:p3):B0 p0∧B0 p1∧B0 p2∧B0 p3:=⟨⟨x0⟩,⟨x1⟩,⟨x2⟩,⟨x3⟩⟩
theorem bl_ {w0 W w':World} {g:Nat} {o:Obj} (k:w0.heap[g]? = some o) (hb:Below W.heap.size W w') (h:w0.heap[g]? = some o→W.heap[g]? = some o:=by intro g_;(with_reducible repeat (first | refine A6n ?_ _ | refine A0n ?_ | refine A6o ?_ _));exact g_):w'.heap[g]? = some o:=T3 (h k) hb
theorem pc_ {q p:Prop} (g:q) (h:q→p:=by intro g_;(with_reducible repeat (first | refine A6n ?_ _ | refine A0n ?_ | refine A6o ?_ _));exact g_):p:=h g
theorem cf5_ {w:World} {g:Nat} {t:TypeId} {v0 v1 v2 v3 v4:Value} (h:w.heap[g]? = some (.cells #[v0,v1,v2,v3,v4] t (0,0))):w.cell? ⟨g,0,none⟩=some v0∧w.cell? ⟨g,1,none⟩=some v1∧w.cell? ⟨g,2,none⟩=some v2∧w.cell? ⟨g,3,none⟩=some v3∧w.cell? ⟨g,4,none⟩=some v4:=⟨(C4 h 0).trans rfl,(C4 h 1).trans rfl,(C4 h 2).trans rfl,(C4 h 3).trans rfl,(C4 h 4).trans rfl⟩
abbrev sr5_ (g:Nat) (v0 v1 v2 v3 v4:Value) (w:World):Prop:=w.cell? ⟨g,0,none⟩=some v0∧w.cell? ⟨g,1,none⟩=some v1∧w.cell? ⟨g,2,none⟩=some v2∧w.cell? ⟨g,3,none⟩=some v3∧w.cell? ⟨g,4,none⟩=some v4
theorem bx_ {w W w':World} {g:Nat} {p:Prop} (hg:g=W.heap.size) (hbox:p) (hb:Below W.heap.size W w') (h:Below w.heap.size w W:=by repeat (first | (with_reducible first | exact HB.out | apply I8 | apply Q2 | apply Q5) | exact HB.out)):B0 (Below w.heap.size w w')∧B0 p∧B0 (w.heap.size≤g)∧B0 (w.heap.size≤g):=by rw [hg];exact ⟨⟨D0 h hb⟩,⟨hbox⟩,⟨G4 h⟩,⟨G4 h⟩⟩
end
end Go.Proofs.YtmfgajbkcnlkcaaGreat
namespace Go.Proofs.YtmfgajbkcnlkcaaGreat.P
open Go.RowKit Go.Proofs.YtmfgajbkcnlkcaaGreatW.PrintWords Go.Proofs.YtmfgajbkcnlkcaaGreatW.PrintLast Go.Proofs.YtmfgajbkcnlkcaaGreatW.PrintMore
attribute [local go_sem] Z7 Z5 A1h A1g W9 W8 Z6 Z4   -- for this text's walks alone
set_option linter.unusedVariables false
set_option linter.unusedSimpArgs false
theorem J7.calls (a0:Int) (a1:Int) (a2:Int) (r:Bool) (w:World) (h:J7.f a0 a1 a2=some r) :
 Calls Tryz.prog 59 #[.int .i64 a0,.int .i64 a1,.int .i64 a2] w fun e w'=>e = .returned (.bool r)∧A0g w w':=by
 have H:(if a0≥a1 then (some (decide (a0≤a2))) else (some false))=some r:=h;clear h
 by_cases c4:a0≥a1
 ·
  rw [if_pos c4] at H;have c4b0:decide (a1≤a0)=true:=decide_eq_true c4;clear c4;obtain rfl:=Option.some.inj H;go_enter Tryz.func59,Tryz.ntmps59;go_wp2;go_ret;exact ⟨rs_,dr_⟩
 ·
  rw [if_neg c4] at H;have c4b0:decide (a1≤a0)=false:=decide_eq_false c4;clear c4;obtain rfl:=Option.some.inj H;go_enter Tryz.func59,Tryz.ntmps59;go_wp2;go_ret;exact ⟨rs_,dr_⟩
theorem I5.calls (a0:Int) (r:Bool) (w:World) (h:I5.f a0=some r) :
 Calls Tryz.prog 38 #[.int .i64 a0] w fun e w'=>e = .returned (.bool r)∧A0g w w':=by
 have H:((J7.f a0 1 1000).bind fun t388=>(some t388))=some r:=h;clear h;replace H:=Option.bind_eq_some_iff.mp H;obtain ⟨t388,A20,H⟩:=H;have A2:=B0.mk A20;clear A20;obtain rfl:=Option.some.inj H;go_enter Tryz.func38,Tryz.ntmps38;go_wp2_with (first | ((with_reducible refine M3 (f:=59) rfl ?_);refine V6 (some 4) rfl rfl Tryz.func59 kr_ rfl #[.int .i64 a0,.int .i64 1,.int .i64 1000] rfl (bc_) ?_;(with_reducible refine (J7.calls a0 1 1000 t388 _ A2.out).mono ?_);rintro e w' ⟨rfl,⟨nd,rfl⟩⟩;refine ⟨_,rfl,?_⟩))
 go_ret;exact ⟨rs_,dr_⟩
theorem L7.calls (a0:Int) (r:Bool) (w:World) (h:L7.f a0=some r) :
 Calls Tryz.prog 130 #[.int .i64 a0] w fun e w'=>e = .returned (.bool r)∧A0g w w':=by
 have H:((J7.f a0 (-1000000000000000) 1000000000000000).bind fun t399=>(some t399))=some r:=h;clear h;replace H:=Option.bind_eq_some_iff.mp H;obtain ⟨t399,A20,H⟩:=H;have A2:=B0.mk A20;clear A20;obtain rfl:=Option.some.inj H;go_enter Tryz.func130,Tryz.ntmps130;go_wp2_with (first | ((with_reducible refine M3 (f:=59) rfl ?_);refine V6 (some 4) rfl rfl Tryz.func59 kr_ rfl #[.int .i64 a0,.int .i64 (-1000000000000000),.int .i64 1000000000000000] rfl (bc_) ?_;(with_reducible refine (J7.calls a0 (-1000000000000000) 1000000000000000 t399 _ A2.out).mono ?_);rintro e w' ⟨rfl,⟨nd,rfl⟩⟩;refine ⟨_,rfl,?_⟩))
 go_ret;exact ⟨rs_,dr_⟩
theorem F8.calls (k:Nat) (a0:Int) (a1:Int) (a2:Int) (a3:Int) (r:Int) (w:World) (h:F8.f k a0 a1 a2 a3=some r) :
 Calls Tryz.prog 131 #[.int .i64 a0,.int .i64 a1,.int .i64 a2,.int .i64 a3] w fun e w'=>e = .returned (.int .i64 r)∧A0g w w':=by
 have H:(if a0<a2 then (F8.j0 k a0 a1 a2 a3 true) else (if a0=a2 then (F8.j0 k a0 a1 a2 a3 (decide (a1<a3))) else (F8.j0 k a0 a1 a2 a3 false)))=some r:=h;clear h;have HC5:=B0.mk H;clear H;go_enter Tryz.func131,Tryz.ntmps131;go_upto_region 1 with (fail)
 go_cut [9] (fun v9 wc=>∃ (kq:Nat) (x9_4:Bool),v9 = .bool x9_4∧B0 (F8.j0 kq a0 a1 a2 a3 x9_4=some r)∧B0 (kq≤k)∧A0g w wc)
 case first=>
  have H:=HC5.out;clear HC5
  by_cases c6:a0<a2
  ·
   rw [if_pos c6] at H;have c6b0:decide (a0<a2)=true:=decide_eq_true c6;clear c6;(first | rw [c6b0] | (simp only [A2z,A7a];rw [c6b0]) | skip)
   have H':=B0.mk H;clear H;go_wp2;go_meet
   case rel=>exact ⟨_,(true),(rs_),H',⟨le_⟩,dr_⟩
  ·
   rw [if_neg c6] at H;have c6b0:decide (a0<a2)=false:=decide_eq_false c6;clear c6;(first | rw [c6b0] | (simp only [A2z,A7a];rw [c6b0]) | skip)
   by_cases c7:a0=a2
   ·
    rw [if_pos c7] at H;have c7b0:(a0 == a2)=true:=beq_iff_eq.mpr c7;have c7b1:(a0 != a2)=false:=bne_eq_false_iff_eq.mpr c7;clear c7;have H':=B0.mk H;clear H;go_wp2;go_meet
    case rel=>exact ⟨_,(decide (a1<a3)),(rs_),H',⟨le_⟩,dr_⟩
   ·
    rw [if_neg c7] at H;have c7b0:(a0 == a2)=false:=beq_eq_false_iff_ne.mpr c7;have c7b1:(a0 != a2)=true:=bne_iff_ne.mpr c7;have H':=B0.mk H;clear H;go_wp2;go_meet
    case rel=>exact ⟨_,(false),(rs_),H',⟨le_⟩,dr_⟩
 case rest=>
  clear HC5;try clear c1
  try clear p2
  try clear c6b0
  try clear c7b0
  try clear c7b1
  obtain ⟨kq,x9_4,rfl,HA,HJ4,⟨mc4,rfl⟩⟩:=hcut
  cases kq with
  | zero=>exact absurd HA.out (by simp [F8.j0])
  | succ kj4=>
   have H:=HA.out;clear HA;simp only [F8.j0] at H
   by_cases c8:x9_4=true
   ·
    subst c8;replace H:=Eq.trans (if_pos rfl).symm H;obtain rfl:=Option.some.inj H;go_wp2;go_ret;exact ⟨rs_,dr_⟩
   ·
    replace c8:=Bool.eq_false_iff.mpr c8;subst c8;replace H:=Eq.trans (if_neg nf_).symm H
    by_cases c9:a0=a2
    ·
     rw [if_pos c9] at H;have c9b0:(a0 == a2)=true:=beq_iff_eq.mpr c9;have c9b1:(a0 != a2)=false:=bne_eq_false_iff_eq.mpr c9;clear c9
     by_cases c10:a1=a3
     ·
      rw [if_pos c10] at H;have c10b0:(a1 == a3)=true:=beq_iff_eq.mpr c10;have c10b1:(a1 != a3)=false:=bne_eq_false_iff_eq.mpr c10;clear c10;obtain rfl:=Option.some.inj H;go_wp2;go_ret;exact ⟨rs_,dr_⟩
     ·
      rw [if_neg c10] at H;have c10b0:(a1 == a3)=false:=beq_eq_false_iff_ne.mpr c10;have c10b1:(a1 != a3)=true:=bne_iff_ne.mpr c10;obtain rfl:=Option.some.inj H;go_wp2;go_ret;exact ⟨rs_,dr_⟩
    ·
     rw [if_neg c9] at H;have c9b0:(a0 == a2)=false:=beq_eq_false_iff_ne.mpr c9;have c9b1:(a0 != a2)=true:=bne_iff_ne.mpr c9;obtain rfl:=Option.some.inj H;go_wp2;go_ret;exact ⟨rs_,dr_⟩
theorem J1.calls (A0:Option Addr) (c0:Nat) (l0:List (S110)) (r:List (S110)) (w:World) (hr0:Kd.C k110 w A0 l0.length l0) (hc0:l0.length≤c0) (h:J1.f l0=some r) :
 Calls Tryz.prog 100 #[.slice A0 l0.length c0] w fun e w'=>∃ v0_:Value,e = .returned (v0_)∧Kd.R k110 110 w' w.heap.size (fun _=>True) v0_ r∧Below w.heap.size w w':=by
 have HR0:=B0.mk hr0;have HC0:=B0.mk hc0;clear hr0 hc0;have HB:=B0.mk (Below.refl w.heap.size w);have H:((some (([]:List (S110)):List (S110))).bind fun y419=>(if y419.length+l0.length<3518437208883 then (some (y419++l0)) else (none)))=some r:=h;clear h;obtain ⟨y419,hy419⟩:∃ y_:List (S110),y_=(([]:List (S110))):=⟨_,rfl⟩;replace H:(if y419.length+l0.length<3518437208883 then (some (y419++l0)) else (none))=some r:=rh_ hy419 H;have Ny419:=B0.mk hy419;clear hy419
 by_cases c2:y419.length+l0.length<3518437208883
 ·
  rw [if_pos c2] at H;have LMc2:=B0.mk c2;clear c2;obtain ⟨y422,hy422⟩:∃ y_:List (S110),y_=(y419++l0):=⟨_,rfl⟩;replace H:(some y422)=some r:=rh_ hy422 H;have Ny422:=B0.mk hy422;clear hy422;obtain rfl:=Option.some.inj H;have q_:∀ (W:World) (a:Option Addr) (n c n' c':Nat),(binOp .eql 33 (.slice a n c) (.slice none n' c')).run Tryz.prog W = .ok (.bool a.isNone) W:=fun W a n c n' c'=>Lib.run_eql_slice_nil W _ _ a n c n' c' Tryz.underlying33
  cases A0 with
  | none=>
   have e0_:l0=[]:=by
    have h_:Q3 _ _ _ _ _ _:=HR0.out;unfold Q3 at h_
    obtain ⟨h1_,_,h2_⟩:=h_;apply List.eq_nil_of_length_eq_zero
    apply Classical.byContradiction
    intro hn_
    obtain ⟨ad_,e_,_⟩:=h2_ (by omega)
    cases e_
   have Ny0_:y422=[]:=by rw [Ny422.out,Ny419.out,e0_];rfl
   subst Ny0_;go_enter Tryz.func100,Tryz.ntmps100;go_wp2;go_ret;exact ⟨_,rs_,Kd.R_nil _ _ _ _ _,HB.out⟩
  | some ad0=>
   go_enter Tryz.func100,Tryz.ntmps100
   go_wp2_with (first | ((with_reducible refine P7 (N:=5) rfl ?_);refine Kd.R_lit k110 _ 110 ?hg (N:=5) ?hd (xs:=([]:List (S110))) (inner:=[]) (ok:=fun _=>True) (okp:=fun _=>True) ?hr ?hp (fun _ hk=>hk) trivial (Below.refl _ _) (Nat.le_refl _) (by simp) ?_;(case hd=>rfl);(case hg=>rfl);(case hr=>first | (go_simp;done) | (go_simp;rfl));(case hp=>exact (Reps.none _ _));intro v420 w3 ho4 hb hg_ hnew_;clear hg_ hnew_;(first | rw [← Ny419.out] at ho4 | (simp only [Int.reduceToNat] at ho4;rw [← Ny419.out] at ho4));have n_:=as2_ (Kd.R_lower ho4 (G4 (bb_))) (D0 (bb_) hb);clear HB;obtain ⟨HO421,HB⟩:=n_;clear hb ho4) | ((with_reducible refine P8 (b:=.append) (xs:=#[.tmp 5,.tmp 6]) rfl ?_);at_builtin;refine Kd.R_append_rows k110 (w0:=w) w.heap.size rfl (.tmp 5) (.tmp 6) 33 110 (.agg #[(.int .i64 0),(.int .i64 0),(.int .i64 0),(.int .i64 0),(.int .i64 0)]) 40 rfl Tryz.underlying33 A1v rfl (by decide) (by omega) v420 y419 l0 _ _ _ (fun _=>True) (fun _=>False) rfl rfl ?aO ?aR (fun _ _ h=>h) (fun _ h=>h.elim) ?aF ?aB ?aS ?aL ?_;(case aR=>exact cc_ (Kd.C_below HR0.out HB.out));(case aB=>exact (bb_));(case aF=>exact (fun _ _=>trivial));(case aO=>exact (pe_ HO421.out));(case aS=>exact (G4 (bb_)));(case aL=>have:=LMc2.out;omega);intro v423 w5 ho hb hg hat;rw [← Ny422.out] at ho;have n_:=as2_ (hb) (ho);clear HB HO421;obtain ⟨HB,HO424⟩:=n_;clear ho hb hg hat))
   go_ret;exact ⟨_,er_,pe_ HO424.out,bb_⟩
 ·
  rw [if_neg c2] at H;exact absurd H (by simp)
theorem IndexFunc_st110.calls (A0:Option Addr) (c0:Nat) (l0:List (S110)) (fc:FuncId) (caps:Array Value) (p:S110→Bool) (w:World) (hr0:Kd.C k110 w A0 l0.length l0) (hc0:l0.length≤c0) (hp:X0.FnB Tryz.prog fc caps w (fun x=>.agg #[.int .i64 x.f0,.int .i64 x.f1,.int .i64 x.f2,.int .i64 x.f3,.int .i64 x.f4]) p) :
 Calls Tryz.prog 168 #[.slice A0 l0.length c0,.func (.func fc) #[] caps] w fun e w'=>e = .returned (.int .i64 (X0.idx p l0))∧Below w.heap.size w w':=by
 obtain ⟨fn,hf,hn,hb,hcall⟩:=hp;have HR0:=B0.mk hr0;have HC0:=B0.mk hc0;have HF:=B0.mk hf;have HN:=B0.mk hn;have HBo:=B0.mk hb;have HP:=B0.mk hcall;have HM:=B0.mk (Kd.C_max hr0);clear hr0 hc0 hf hn hb hcall;have HB:=B0.mk (Below.refl w.heap.size w);have hu110:=Tryz.underlying110;go_enter Tryz.func168,Tryz.ntmps168;go_wp2;go_loopg [8] l0.length (fun kq v8 w'=>∃ (x:Int),v8 = .int .i64 x∧B0 (0≤x∧x≤l0.length∧kq=(l0.length-x).toNat∧∀ j:Nat,j<x.toNat→p (l0.getD j z110)=false)∧B0 (Below w.heap.size w w'))
 case atStart=>exact ⟨0,rfl,⟨Int.le_refl _,by omega,by omega,fun j hj=>by omega⟩,⟨HB.out⟩⟩
 case round=>
  obtain ⟨x,rfl,HA,HB⟩:=hrel
  by_cases c2:x<(l0.length:Int)
  ·
   have p1:0≤x:=HA.out.1;obtain ⟨ad,e,hx_0,hx_1,hx_2,hx_3,hx_4⟩:=A4v HR0.out x p1 c2;cases e;replace hx_0:=cl_ HB.out hx_0;replace hx_1:=cl_ HB.out hx_1;replace hx_2:=cl_ HB.out hx_2;replace hx_3:=cl_ HB.out hx_3;replace hx_4:=cl_ HB.out hx_4;have c2b0:decide (x<(l0.length:Int))=true:=decide_eq_true c2;have C2:=B0.mk c2;replace p1:=eq_true p1;have q1:=eq_true c2;clear c2
   cases hpx:p (A4 l0 x) with
   | true=>
    have HX:=B0.mk hpx;clear hpx;go_wp2_with (first | ((with_reducible refine P7 (N:=16) rfl ?_);refine X0.goesV_ (some 16) rfl rfl caps HF.out HN.out HBo.out #[.agg #[.int .i64 (A4 l0 x).f0,.int .i64 (A4 l0 x).f1,.int .i64 (A4 l0 x).f2,.int .i64 (A4 l0 x).f3,.int .i64 (A4 l0 x).f4]] rfl rfl (by (try simp only [List.map_toArray,List.map_cons,List.map_nil]);first | done | rfl) ?_;refine (HP.out (A4 l0 x) _ HB.out).mono ?_;rintro e w6 ⟨rfl,hb6⟩;refine ⟨_,rfl,?_⟩;rw [HX.out];replace HB:=B0.mk (D0 HB.out hb6);clear hb6))
    go_ret
    exact ⟨by
     have:=HA.out;have h2:=C2.out;have e1:A4 l0 x=l0.getD x.toNat z110:=rfl;have h3:=HX.out;rw [e1] at h3;rw [X0.idx_found p z110 l0 x.toNat (by omega) this.2.2.2 h3,Int.toNat_of_nonneg this.1]
     rfl,HB.out⟩
   | false=>
    have HX:=B0.mk hpx;clear hpx;go_wp2_with (first | ((with_reducible refine P7 (N:=16) rfl ?_);refine X0.goesV_ (some 16) rfl rfl caps HF.out HN.out HBo.out #[.agg #[.int .i64 (A4 l0 x).f0,.int .i64 (A4 l0 x).f1,.int .i64 (A4 l0 x).f2,.int .i64 (A4 l0 x).f3,.int .i64 (A4 l0 x).f4]] rfl rfl (by (try simp only [List.map_toArray,List.map_cons,List.map_nil]);first | done | rfl) ?_;refine (HP.out (A4 l0 x) _ HB.out).mono ?_;rintro e w6 ⟨rfl,hb6⟩;refine ⟨_,rfl,?_⟩;rw [HX.out];replace HB:=B0.mk (D0 HB.out hb6);clear hb6))
    go_roundg (l0.length-(x+1)).toNat
    case measure=>have:=HA.out;have:=C2.out;omega
    case rel=>
     have h1:=HA.out;have h2:=C2.out;have h4:=HM.out;refine ⟨wrap64 (x+1),(rs_),⟨?_⟩,⟨HB.out⟩⟩
     have hw:wrap64 (x+1)=x+1:=by unfold wrap64;omega
     rw [hw]
     refine ⟨by omega,by omega,rfl,fun j hj=>?_⟩
     by_cases hj2:j<x.toNat
     ·
      exact h1.2.2.2 j hj2
     ·
      obtain rfl:j=x.toNat:=by omega
      exact HX.out
  ·
   have c2b0:decide (x<(l0.length:Int))=false:=decide_eq_false c2;have C2:=B0.mk c2;clear c2;go_wp2;go_ret
   exact ⟨by
    have:=HA.out;have h2:=C2.out;rw [X0.idx_none p z110 l0 fun j hj=>this.2.2.2 j (by omega)]
    rfl,HB.out⟩
theorem ContainsFunc_st110.calls (A0:Option Addr) (c0:Nat) (l0:List (S110)) (fc:FuncId) (caps:Array Value) (p:S110→Bool) (w:World) (hr0:Kd.C k110 w A0 l0.length l0) (hc0:l0.length≤c0) (hp:X0.FnB Tryz.prog fc caps w (fun x=>.agg #[.int .i64 x.f0,.int .i64 x.f1,.int .i64 x.f2,.int .i64 x.f3,.int .i64 x.f4]) p) :
 Calls Tryz.prog 134 #[.slice A0 l0.length c0,.func (.func fc) #[] caps] w fun e w'=>e = .returned (.bool (l0.any p))∧Below w.heap.size w w':=by
 have HI:=B0.mk (IndexFunc_st110.calls A0 c0 l0 fc caps p w hr0 hc0 hp);clear hr0 hc0 hp;go_enter Tryz.func134,Tryz.ntmps134;go_wp2_with (first | (go_at_call 168;refine HI.out.mono ?_;rintro e w6 ⟨rfl,hb6⟩;have HB:=B0.mk hb6;clear hb6))
 go_ret
 exact ⟨by
  rw [← X0.idx_any p l0]
  rfl,HB.out⟩
theorem J8:IN.Flat k110 (fun x:S110=>([.int .i64 x.f0,.int .i64 x.f1,.int .i64 x.f2,.int .i64 x.f3,.int .i64 x.f4]:List Value)):=⟨fun h=>A4p h,fun w base ok x=>A1a w base ok x,fun h=>A3z h⟩
theorem B1f (w:World):(zeroValue 110).run Tryz.prog w = .ok (.agg #[(.int .i64 0),(.int .i64 0),(.int .i64 0),(.int .i64 0),(.int .i64 0)]) w:=by
 obtain ⟨i0,hi,hz⟩:=Option.map_eq_some_iff.1 A1v;simp only [Prod.mk.injEq] at hz;simp [zeroValue,typeInfo,hi,hz.1]
theorem DeleteFunc_st110.some_ (g c i0:Nat) (l0:List (S110)) (fc:FuncId) (caps:Array Value) (p:S110→Bool) (w:World) (hraw:DG.Raw (fun x:S110=>([.int .i64 x.f0,.int .i64 x.f1,.int .i64 x.f2,.int .i64 x.f3,.int .i64 x.f4]:List Value)) 5 110 c g w l0) (hlc:l0.length≤c) (hcm:c≤maxLen) (hl:l0.length<1048577)
 (hp:DG.FnG Tryz.prog fc caps w g (fun x:S110=>.agg #[.int .i64 x.f0,.int .i64 x.f1,.int .i64 x.f2,.int .i64 x.f3,.int .i64 x.f4]) p) (hi0:i0<l0.length) (hx:X0.idx p l0=(i0:Int)) (ht:p (l0.getD i0 z110)=true) (ha:∀ x∈l0.take i0,p x=false) :
 Calls Tryz.prog 169 #[.slice (some ⟨g,0,none⟩) l0.length c,.func (.func fc) #[] caps] w fun e w'=>e = .returned (.slice (some ⟨g,0,none⟩) (l0.filter fun x=>!p x).length c)∧w.grownBy w' (some g)∧DG.Raw (fun x:S110=>([.int .i64 x.f0,.int .i64 x.f1,.int .i64 x.f2,.int .i64 x.f3,.int .i64 x.f4]:List Value)) 5 110 c g w' (l0.filter fun x=>!p x):=by
 have hu110:=Tryz.underlying110;have HI:=B0.mk (IndexFunc_st110.calls (some ⟨g,0,none⟩) c l0 fc caps p w (DG.Raw.reads J8 rfl hraw hlc hcm) hlc hp.below);obtain ⟨fn,hf,hn,hb,hcall⟩:=hp;have HF:=B0.mk hf;have HN:=B0.mk hn;have HBo:=B0.mk hb;have HP:=B0.mk hcall;have HRW:=B0.mk hraw;have HST:=B0.mk (DG.KI.start (p:=p) z110 hi0 ht ha);have HX:=B0.mk hx;have hm:c≤9223372036854775807:=by unfold maxLen at hcm;exact hcm
 have hne1:((i0:Int) == -1)=false:=beq_eq_false_iff_ne.2 (by omega)
 clear hf hn hb hcall hraw ht ha hx;go_enter Tryz.func169,Tryz.ntmps169;go_wp2_with (go_at_call 168;refine HI.out.mono ?_;rintro e w6 ⟨rfl,hb6⟩;rw [HX.out];have HB:=B0.mk hb6;clear hb6)
 go_loopg [5,6] l0.length (fun kq v5 v6 wr=>∃ (i j:Nat) (xs:List (S110)),v5 = .int .i64 (i:Int)∧v6 = .int .i64 (j:Int)∧B0 (DG.KI p l0 xs i j∧l0.length-j≤kq)∧B0 (w.grownBy wr (some g))∧B0 (DG.Raw (fun x:S110=>([.int .i64 x.f0,.int .i64 x.f1,.int .i64 x.f2,.int .i64 x.f3,.int .i64 x.f4]:List Value)) 5 110 c g wr xs))
 case atStart=>exact ⟨i0,i0+1,l0,rfl,by go_num,⟨HST.out,by omega⟩,⟨Z8 HB.out _⟩,⟨HRW.out.later HB.out⟩⟩
 case round=>
  obtain ⟨i,j,xs,rfl,rfl,HK,HG,HR⟩:=hrel
  by_cases hlt:j<l0.length
  ·
   have hxj:=(HK.out.1).at z110 hlt;have hjx:j<xs.length:=by rw [HK.out.1.len];exact hlt
   obtain ⟨x,hx0⟩:∃ x,x=l0.getD j z110:=⟨_,rfl⟩;have HX0:=B0.mk hx0;have hx_0:=HR.out.cell J8 rfl z110 j 0 hjx (.int .i64 x.f0) (by rw [hxj,← hx0];rfl)
   have hx_1:=HR.out.cell J8 rfl z110 j 1 hjx (.int .i64 x.f1) (by rw [hxj,← hx0];rfl)
   have hx_2:=HR.out.cell J8 rfl z110 j 2 hjx (.int .i64 x.f2) (by rw [hxj,← hx0];rfl)
   have hx_3:=HR.out.cell J8 rfl z110 j 3 hjx (.int .i64 x.f3) (by rw [hxj,← hx0];rfl)
   have hx_4:=HR.out.cell J8 rfl z110 j 4 hjx (.int .i64 x.f4) (by rw [hxj,← hx0];rfl)
   rw [Nat.add_zero] at hx_0;have hij:i<j:=HK.out.1.lt;have hjc:j<c:=by omega
   clear hxj hjx hx0
   cases hpx:p x with
   | true=>
    have HPX:=B0.mk hpx;clear hpx;go_wp2_with (first | ((with_reducible refine P7 (N:=28) rfl ?_);refine X0.goesV_ (some 28) rfl rfl caps HF.out HN.out HBo.out #[.agg #[.int .i64 x.f0,.int .i64 x.f1,.int .i64 x.f2,.int .i64 x.f3,.int .i64 x.f4]] rfl rfl (by (try simp only [List.map_toArray,List.map_cons,List.map_nil]);first | done | rfl) ?_;refine (HP.out x _ (DG.grown_below HG.out (I8 (Below.refl _ _) _))).mono ?_;rintro e w9 ⟨rfl,hb9⟩;refine ⟨_,rfl,?_⟩;rw [HPX.out];have HB9:=B0.mk hb9;skip;clear hb9))
    go_roundg (l0.length-(j+1))
    case measure=>have:=HK.out.2;omega
    case rel=>exact ⟨i,j+1,xs,rfl,by go_num,⟨HK.out.1.skip z110 hlt (by rw [← HX0.out];exact HPX.out),Nat.le_refl _⟩,⟨DG.grown_below (DG.grown_below HG.out (I8 (Below.refl _ _) _)) HB9.out⟩,⟨(HR.out.later (I8 (Below.refl _ _) _)).later HB9.out⟩⟩
   | false=>
    have HPX:=B0.mk hpx;clear hpx;have hix:i<xs.length:=by have:=HK.out.1.len;omega
    have hic:i<c:=by omega
    have hiz:(i:Int)<(l0.length:Int):=by omega
    go_wp2_with (first | ((with_reducible refine P7 (N:=28) rfl ?_);refine X0.goesV_ (some 28) rfl rfl caps HF.out HN.out HBo.out #[.agg #[.int .i64 x.f0,.int .i64 x.f1,.int .i64 x.f2,.int .i64 x.f3,.int .i64 x.f4]] rfl rfl (by (try simp only [List.map_toArray,List.map_cons,List.map_nil]);first | done | rfl) ?_;refine (HP.out x _ (DG.grown_below HG.out (I8 (Below.refl _ _) _))).mono ?_;rintro e w9 ⟨rfl,hb9⟩;refine ⟨_,rfl,?_⟩;rw [HPX.out];have HB9:=B0.mk hb9;have hy_0:=(hb9.cell (p:=⟨wr.heap.size,0,none⟩) (by simp)).trans ((DG.cell_new wr _ _ 0).trans (rfl:_=some (Value.int .i64 x.f0)));have hy_1:=(hb9.cell (p:=⟨wr.heap.size,1,none⟩) (by simp)).trans ((DG.cell_new wr _ _ 1).trans (rfl:_=some (Value.int .i64 x.f1)));have hy_2:=(hb9.cell (p:=⟨wr.heap.size,2,none⟩) (by simp)).trans ((DG.cell_new wr _ _ 2).trans (rfl:_=some (Value.int .i64 x.f2)));have hy_3:=(hb9.cell (p:=⟨wr.heap.size,3,none⟩) (by simp)).trans ((DG.cell_new wr _ _ 3).trans (rfl:_=some (Value.int .i64 x.f3)));have hy_4:=(hb9.cell (p:=⟨wr.heap.size,4,none⟩) (by simp)).trans ((DG.cell_new wr _ _ 4).trans (rfl:_=some (Value.int .i64 x.f4)));have RW9:=(HR.out.later (I8 (Below.refl _ _) (Obj.cells #[.int .i64 x.f0,.int .i64 x.f1,.int .i64 x.f2,.int .i64 x.f3,.int .i64 x.f4] 110 (0,0)))).later hb9;have hd_0:=RW9.cell J8 rfl z110 i 0 hix (.int .i64 (xs.getD i z110).f0) rfl;have hf_0:=RW9.frozen (i*5+0);have hd_1:=RW9.cell J8 rfl z110 i 1 hix (.int .i64 (xs.getD i z110).f1) rfl;have hf_1:=RW9.frozen (i*5+1);have hd_2:=RW9.cell J8 rfl z110 i 2 hix (.int .i64 (xs.getD i z110).f2) rfl;have hf_2:=RW9.frozen (i*5+2);have hd_3:=RW9.cell J8 rfl z110 i 3 hix (.int .i64 (xs.getD i z110).f3) rfl;have hf_3:=RW9.frozen (i*5+3);have hd_4:=RW9.cell J8 rfl z110 i 4 hix (.int .i64 (xs.getD i z110).f4) rfl;have hf_4:=RW9.frozen (i*5+4);rw [Nat.add_zero] at hd_0 hf_0;have HW9:=B0.mk RW9;clear RW9;clear hb9))
    go_roundg (l0.length-(j+1))
    case measure=>have:=HK.out.2;omega
    case rel=>
     have hk2:=HK.out.1.keep z110 hlt (by rw [← HX0.out];exact HPX.out)
     rw [← HX0.out] at hk2;exact ⟨i+1,j+1,xs.set i x,by go_num,by go_num,⟨hk2,Nat.le_refl _⟩,⟨DG.grown_row (DG.grown_below (DG.grown_below HG.out (I8 (Below.refl _ _) _)) HB9.out) (IN.grown_set (g:=g) ([.int .i64 x.f0,.int .i64 x.f1,.int .i64 x.f2,.int .i64 x.f3,.int .i64 x.f4]:List Value) (i*5))⟩,⟨HW9.out.set J8 rfl i x hix⟩⟩
  ·
   have hj:j=l0.length:=by have:=HK.out.1.le;omega
   subst hj;have hil:i<l0.length:=HK.out.1.lt;have hlen:=HK.out.1.len;have hic:i<c:=by omega
   have hic2:¬ (c=i):=by omega
   have hcl:=fun ty=>DL.run_clear_k (P:=Tryz.prog) wr 33 110 ty (.agg #[(.int .i64 0),(.int .i64 0),(.int .i64 0),(.int .i64 0),(.int .i64 0)]) Tryz.underlying33 B1f 5 rfl (by intro v hv;simp [Value.cells] at hv;simp [hv,Value.oneCell']) g (i*5) (l0.length-i) (c-i) (fun t ht=>HR.out.some_ J8 rfl (i*5+t) (by rw [hlen];omega)) (fun t _=>HR.out.frozen _)
   clear hlen;go_wp2;go_ret;have hdone:=HK.out.1.done;have hlen2:=HK.out.1.len;have hfl:(l0.filter fun x=>!p x).length=i:=by rw [← hdone,List.length_take];omega
   refine ⟨by rw [hfl];rfl,DG.grown_row HG.out (IN.grown_set _ _),?_⟩
   rw [← hdone]
   exact HR.out.cut J8 rfl i (by omega) _ (by rw [DL.zeroCells_len,hlen2];rfl)
theorem DeleteFunc_st110.none_ (A0:Option Addr) (c0:Nat) (l0:List (S110)) (fc:FuncId) (caps:Array Value) (p:S110→Bool) (w:World) (hr0:Kd.C k110 w A0 l0.length l0) (hc0:l0.length≤c0) (hp:X0.FnB Tryz.prog fc caps w (fun x=>.agg #[.int .i64 x.f0,.int .i64 x.f1,.int .i64 x.f2,.int .i64 x.f3,.int .i64 x.f4]) p) (hx:X0.idx p l0 = -1) :
 Calls Tryz.prog 169 #[.slice A0 l0.length c0,.func (.func fc) #[] caps] w fun e w'=>e = .returned (.slice A0 l0.length c0)∧Below w.heap.size w w':=by
 have HI:=B0.mk (IndexFunc_st110.calls A0 c0 l0 fc caps p w hr0 hc0 hp);have HX:=B0.mk hx;clear hr0 hc0 hp hx;go_enter Tryz.func169,Tryz.ntmps169;go_wp2_with (go_at_call 168;refine HI.out.mono ?_;rintro e w6 ⟨rfl,hb6⟩;rw [HX.out];have HB:=B0.mk hb6;clear hb6)
 go_ret;exact ⟨rfl,HB.out⟩
theorem DeleteFunc_st110.calls (base:Nat) (ok:Nat→Prop) (v:Value) (l0:List (S110)) (fc:FuncId) (caps:Array Value) (p:S110→Bool) (w:World) (ho:Kd.R k110 110 w base ok v l0) (hl:l0.length<1048577) (hb:X0.FnB Tryz.prog fc caps w (fun x=>.agg #[.int .i64 x.f0,.int .i64 x.f1,.int .i64 x.f2,.int .i64 x.f3,.int .i64 x.f4]) p)
 (hp:∀ g,v.ownBlock=some g→base≤g→DG.FnG Tryz.prog fc caps w g (fun x:S110=>.agg #[.int .i64 x.f0,.int .i64 x.f1,.int .i64 x.f2,.int .i64 x.f3,.int .i64 x.f4]) p) :
 Calls Tryz.prog 169 #[v,.func (.func fc) #[] caps] w fun e w'=>∃ v',e = .returned v'∧Kd.R k110 110 w' base ok v' (l0.filter fun x=>!p x)∧w.grownBy w' v.ownBlock:=by
 rcases DG.idx_cases p z110 l0 with ⟨hx,ha⟩ | ⟨i0,hi0,hx,ht,ha⟩
 ·
  obtain ⟨A0,c0,e0⟩:=Kd.R_slice ho;subst e0;have hr:=Kd.R_reads' ho;refine (DeleteFunc_st110.none_ A0 c0 l0 fc caps p w hr.2.2 hr.2.1 hb hx).mono ?_
  rintro e w' ⟨rfl,hb'⟩;rw [DG.filter_all p l0 ha]
  exact ⟨_,rfl,Kd.R_below ho hb',Z8 hb' _⟩
 ·
  obtain ⟨hv,hv2⟩ | ⟨g,c,rfl⟩:=IN.R_cases ho
  ·
   subst hv2;exact absurd hi0 (Nat.not_lt_zero _)
  obtain ⟨n1,n2,n3,n4,n5,_⟩:=IN.R_raw J8 ho;have hraw:=DG.Raw.of_R J8 ho;have hFG:=hp g (by simp [Value.ownBlock]) n4
  refine (DeleteFunc_st110.some_ g c i0 l0 fc caps p w hraw n2 n3 hl hFG hi0 hx ht ha).mono ?_
  rintro e w' ⟨rfl,hg,hr⟩;have hfl:(l0.filter fun x=>!p x).length≤c:=Nat.le_trans (List.length_filter_le _ _) n2;exact ⟨_,rfl,hr.to_R J8 rfl n4 n5 hfl n3,by simpa [Value.ownBlock] using hg⟩
theorem F4.is_ (x:S110) (a1 a2:Int):W3.f x.f0 x.f1 x.f2 x.f3 x.f4 a1 a2=some (decide (x.f0=a1∧x.f1=a2)):=by
 unfold W3.f
 by_cases h1:x.f0=a1<;>by_cases h2:x.f1=a2<;>simp [h1,h2]
theorem F4.clo (B1 B2:Nat) (a1 a2:Int) (x:S110) (W:World) (h1:W.cell? ⟨B1,0,none⟩=some (.int .i64 a1)) (h2:W.cell? ⟨B2,0,none⟩=some (.int .i64 a2)) :
 Calls Tryz.prog 170 #[.agg #[.int .i64 x.f0,.int .i64 x.f1,.int .i64 x.f2,.int .i64 x.f3,.int .i64 x.f4],.pointer (some ⟨B1,0,none⟩),.pointer (some ⟨B2,0,none⟩)] W fun e W'=>e = .returned (.bool (!decide (x.f0=a1∧x.f1=a2)))∧Below W.heap.size W W':=by
 have HB:=B0.mk (Below.refl W.heap.size W);have HI:=B0.mk (F4.is_ x a1 a2);obtain ⟨q,hq⟩:∃ q,decide (x.f0=a1∧x.f1=a2)=q:=⟨_,rfl⟩;rw [hq] at HI ⊢
 clear hq;have HQ:=B0.mk (show ∀ W2,Below W.heap.size W W2→Calls Tryz.prog 171 #[.agg #[.int .i64 x.f0,.int .i64 x.f1,.int .i64 x.f2,.int .i64 x.f3,.int .i64 x.f4],.int .i64 a1,.int .i64 a2] W2 fun e W'=>e = .returned (.bool q)∧Below W2.heap.size W2 W' from fun W2 _=>W3.calls _ _ _ _ _ _ _ q W2 HI.out);have g1:=Lib.cell?_alloc_some (.cells #[.int .i64 x.f0,.int .i64 x.f1,.int .i64 x.f2,.int .i64 x.f3,.int .i64 x.f4] 110 (0,0)) h1;have g2:=Lib.cell?_alloc_some (.cells #[.int .i64 x.f0,.int .i64 x.f1,.int .i64 x.f2,.int .i64 x.f3,.int .i64 x.f4] 110 (0,0)) h2;clear h1 h2;go_enter Tryz.func170,Tryz.ntmps170;go_wp2_with (go_at_call 171;refine (HQ.out _ (I8 HB.out _)).mono ?_;rintro e w6 ⟨rfl,hb6⟩;have HB6:=B0.mk hb6;clear hb6)
 all_goals
  go_ret;exact ⟨rs_,D0 (I8 HB.out _) HB6.out⟩
theorem F4.up (w:World) (o1 o2:Obj):w.heap.size≤((w.alloc o1).alloc o2).heap.size:=by simp;omega
theorem F4.lt1 {w:World} {o1 o2:Obj} {g:Nat} (h:((w.alloc o1).alloc o2).heap.size≤g):w.heap.size<g:=by simp at h;omega
theorem F4.lt2 {w:World} {o1 o2:Obj} {g:Nat} (h:((w.alloc o1).alloc o2).heap.size≤g):w.heap.size+1<g:=by simp at h;omega
theorem F4.c1 {w w5:World} {u1:Value} {t:Nat} {o2:Obj} (hb:Below ((w.alloc (.cells #[u1] t (0,0))).alloc o2).heap.size ((w.alloc (.cells #[u1] t (0,0))).alloc o2) w5):w5.cell? ⟨w.heap.size,0,none⟩=some u1:=
 (hb.cell (by simp;omega)).trans (Lib.cell?_alloc_some o2 (DG.cell_new w #[u1] t 0))
theorem F4.c2 {w w5:World} {o1:Obj} {u2:Value} {t:Nat} (hb:Below ((w.alloc o1).alloc (.cells #[u2] t (0,0))).heap.size ((w.alloc o1).alloc (.cells #[u2] t (0,0))) w5):w5.cell? ⟨w.heap.size+1,0,none⟩=some u2:=by
 have e:(w.alloc o1).heap.size=w.heap.size+1:=by simp
 have h:=DG.cell_new (w.alloc o1) #[u2] t 0;rw [e] at h;exact (hb.cell (by simp)).trans h
theorem F4.own {w:World} {base:Nat} {ok:Nat→Prop} {v:Value} {xs:List (S110)} (h:Kd.R k110 110 w base ok v xs) (k:Nat) (hk:v.ownBlock=some k):base≤k:=by
 obtain ⟨hv,_⟩ | ⟨g,c,rfl⟩:=IN.R_cases h
 ·
  subst hv;simp [Value.ownBlock] at hk
 ·
  obtain ⟨_,_,_,n4,_,_⟩:=IN.R_raw J8 h;simp [Value.ownBlock] at hk
  omega
theorem F4.predB {B1 B2:Nat} {a1 a2:Int} {w:World} (c1:w.cell? ⟨B1,0,none⟩=some (.int .i64 a1)) (c2:w.cell? ⟨B2,0,none⟩=some (.int .i64 a2)) :
 X0.FnB Tryz.prog 170 #[.pointer (some ⟨B1,0,none⟩),.pointer (some ⟨B2,0,none⟩)] w (fun x:S110=>.agg #[.int .i64 x.f0,.int .i64 x.f1,.int .i64 x.f2,.int .i64 x.f3,.int .i64 x.f4]) (fun x=>!decide (x.f0=a1∧x.f1=a2)):=
 ⟨_,Tryz.func170,by kernel_rfl,rfl,fun x W hW=>F4.clo B1 B2 a1 a2 x W ((hW.cell (World.block_lt_of_cell? w _ c1)).trans c1) ((hW.cell (World.block_lt_of_cell? w _ c2)).trans c2)⟩
theorem F4.predG {B1 B2 g:Nat} {a1 a2:Int} {w:World} (c1:w.cell? ⟨B1,0,none⟩=some (.int .i64 a1)) (c2:w.cell? ⟨B2,0,none⟩=some (.int .i64 a2)) (n1:B1<g) (n2:B2<g) :
 DG.FnG Tryz.prog 170 #[.pointer (some ⟨B1,0,none⟩),.pointer (some ⟨B2,0,none⟩)] w g (fun x:S110=>.agg #[.int .i64 x.f0,.int .i64 x.f1,.int .i64 x.f2,.int .i64 x.f3,.int .i64 x.f4]) (fun x=>!decide (x.f0=a1∧x.f1=a2)):=
 ⟨_,Tryz.func170,by kernel_rfl,rfl,fun x W hW=>F4.clo B1 B2 a1 a2 x W (hW.cell c1 (by simp;omega)) (hW.cell c2 (by simp;omega))⟩
theorem F4.calls (A0:Option Addr) (c0:Nat) (l0:List (S110)) (a1 a2:Int) (r:List (S110)) (w:World) (hr0:Kd.C k110 w A0 l0.length l0) (hc0:l0.length≤c0) (h:F4.f l0 a1 a2=some r) :
 Calls Tryz.prog 137 #[.slice A0 l0.length c0,.int .i64 a1,.int .i64 a2] w fun e w'=>∃ v0_:Value,e = .returned (v0_)∧Kd.R k110 110 w' w.heap.size (fun _=>True) v0_ r∧Below w.heap.size w w':=by
 unfold F4.f at h
 by_cases hl:l0.length<1048577
 ·
  rw [if_pos hl] at h;obtain rfl:=Option.some.inj h;clear h
  have hcl:J1.f l0=some l0:=by
   unfold J1.f
   rw [Option.bind_some,List.length_nil,if_pos (by omega),List.nil_append]
  have HC:=B0.mk hcl;have HR0:=B0.mk hr0;have HC0:=B0.mk hc0;have HB:=B0.mk (Below.refl w.heap.size w);have HL:=B0.mk hl;clear hr0 hc0 hcl hl;go_enter Tryz.func137,Tryz.ntmps137;go_wp2_with (first | (go_at_call 100;refine (J1.calls A0 c0 l0 l0 _ (Kd.C_alloc (Kd.C_alloc HR0.out _) _) HC0.out HC.out).mono ?_;rintro e w5 ⟨v,rfl,ho,hb⟩;have HO:=B0.mk ho;have HB5:=B0.mk hb;clear ho hb) | (go_at_call 169;refine (DeleteFunc_st110.calls _ _ v l0 170 #[.pointer (some ⟨w.heap.size,0,none⟩),.pointer (some ⟨w.heap.size+1,0,none⟩)] (fun x=>!decide (x.f0=a1∧x.f1=a2)) _ HO.out HL.out (F4.predB (F4.c1 HB5.out) (F4.c2 HB5.out)) (fun g _ hg=>F4.predG (F4.c1 HB5.out) (F4.c2 HB5.out) (F4.lt1 hg) (F4.lt2 hg))).mono ?_;rintro e w6 ⟨v6,rfl,ho,hg⟩;have HO6:=B0.mk ho;have HG6:=B0.mk hg;clear ho hg))
  go_ret;have hsz:=F4.up w (.cells #[.int .i64 a1] 3 (0,0)) (.cells #[.int .i64 a2] 3 (0,0));refine ⟨v6,rs_,?_,?_⟩
  ·
   have hR:=Kd.R_lower HO6.out hsz;have e:(l0.filter fun x=>!(!decide (x.f0=a1∧x.f1=a2)))=l0.filter fun x=>decide (x.f0=a1∧x.f1=a2):=by simp only [Bool.not_not]
   rw [e] at hR;exact hR
  ·
   have hb5:=D0 (I8 (I8 (Below.refl _ _) _) _) HB5.out;exact hb5.grown HG6.out (G4 hb5) (fun k hk=>Nat.le_trans hsz (F4.own HO.out k hk))
 ·
  rw [if_neg hl] at h;cases h
theorem A9.in_ (a lo hi:Int):J7.f a lo hi=some (decide (lo≤a∧a≤hi)):=by
 unfold J7.f
 by_cases h:a≥lo
 ·
  rw [if_pos h]
  congr 1
  rw [Bool.eq_iff_iff,decide_eq_true_iff,decide_eq_true_iff]
  omega
 ·
  rw [if_neg h]
  congr 1
  symm
  rw [decide_eq_false_iff_not]
  omega
theorem A9.amt_ (a:Int):L7.f a=some (A9.amt a):=by
 unfold L7.f A9.amt
 rw [A9.in_]
 rfl
theorem A9.no_ (a:Int):I5.f a=some (decide (1≤a∧a≤1000)):=by
 unfold I5.f
 rw [A9.in_]
 rfl
theorem A9.form_ (x:S110):R9.f x.f0 x.f1 x.f2 x.f3 x.f4=some (A9.form x):=by
 unfold R9.f A9.form
 simp only [A9.in_,A9.no_,Option.bind_some]
 by_cases h0:1≤x.f0∧x.f0≤1000
 ·
  by_cases h1:1≤x.f1∧x.f1≤1000
  ·
   by_cases h2:1≤x.f2∧x.f2≤1000000000
   ·
    by_cases h3:1≤x.f3∧x.f3≤1000000000000000<;>simp [h0,h1,h2,h3]
   ·
    simp [h0,h1,h2]
  ·
   simp [h0,h1]
 ·
  simp [h0]
theorem A9.cmp_ (a b:S110):L3.f 1 a.f0 a.f1 a.f2 a.f3 a.f4 b.f0 b.f1 b.f2 b.f3 b.f4=some (A9.cmp a b):=by
 unfold L3.f F8.f A9.cmp
 simp only [F8.j0]
 by_cases h0:a.f0<b.f0
 ·
  simp [h0]
 ·
  by_cases h1:a.f0=b.f0
  ·
   have n1:¬b.f0<a.f0:=by omega
   by_cases h2:a.f1<b.f1
   ·
    simp [h1,h2]
   ·
    by_cases h3:a.f1=b.f1
    ·
     by_cases h4:a.f2<b.f2
     ·
      simp [h1,h3,h4]
     ·
      by_cases h5:b.f2<a.f2<;>simp [h1,h3,h4,h5]
    ·
     have n3:b.f1<a.f1:=by omega
     simp [h1,h2,h3,n3]
  ·
   have n1:b.f0<a.f0:=by omega
   simp [h0,h1,n1]
theorem A9.sum_go (l:List (S110)) (hl:l.length<1048577):∀ (n i:Nat) (q c:Int),l.length-i=n→i≤l.length→H3.l0 (n+1) q c l (l.length:Int) (i:Int)=some (A9.sum3 (l.drop i) q,A9.sum4 (l.drop i) c)
 | 0,i,q,c,hn,hi=>by
  have e:i=l.length:=by omega
  subst e;rw [H3.l0,if_neg (by omega),List.drop_length]
  rfl
 | n+1,i,q,c,hn,hi=>by
  have h1:i<l.length:=by omega
  rw [H3.l0,if_pos (by omega),if_pos (by omega),if_pos (by omega)]
  have hw:wrap64 ((i:Int)+1)=((i+1:Nat):Int):=by
   unfold wrap64
   omega
  rw [hw,A9.sum_go l hl n (i+1) _ _ (by omega) (by omega),List.drop_eq_getElem_cons h1]
  have e:A4 l (i:Int)=l[i]:=by
   unfold A4
   rw [Int.toNat_natCast,List.getD_eq_getElem?_getD,List.getElem?_eq_getElem h1]
   rfl
  rw [e]
  rfl
theorem A9.sum_ (l:List (S110)) (hl:l.length<1048577):H3.f (l.length+1) l=some (A9.sum3 l 0,A9.sum4 l 0):=A9.sum_go l hl l.length 0 0 0 (by omega) (by omega)
theorem A9.clo (B:Nat) (A0:Option Addr) (c0:Nat) (l0:List (S110)) (x:S110) (W:World) (h1:W.cell? ⟨B,0,none⟩=some (.slice A0 l0.length c0)) (hC:Kd.C k110 W A0 l0.length l0) (hc0:l0.length≤c0) (hl:l0.length<1048577) :
 Calls Tryz.prog 135 #[.agg #[.int .i64 x.f0,.int .i64 x.f1,.int .i64 x.f2,.int .i64 x.f3,.int .i64 x.f4],.pointer (some ⟨B,0,none⟩)] W fun e W'=>e = .returned (.bool (A9.over l0 x))∧Below W.heap.size W W':=by
 have HB:=B0.mk (Below.refl W.heap.size W);have HC:=B0.mk hC;have HC0:=B0.mk hc0
 have HF:B0 (F4.f l0 x.f0 x.f1=some (A9.of l0 x.f0 x.f1)):=⟨by
  unfold F4.f
  rw [if_pos hl]
  rfl⟩
 have HL:B0 ((A9.of l0 x.f0 x.f1).length<1048577):=⟨Nat.lt_of_le_of_lt (List.length_filter_le _ _) hl⟩;have HO:B0 (A9.over l0 x=if A9.amt (A9.sum3 (A9.of l0 x.f0 x.f1) 0)=true then !A9.amt (A9.sum4 (A9.of l0 x.f0 x.f1) 0) else true):=⟨rfl⟩;generalize A9.over l0 x=ov at HO ⊢
 generalize A9.of l0 x.f0 x.f1=part at HF HL HO
 have HS:=B0.mk (A9.sum_ part HL.out);generalize A9.sum3 part 0=q at HS HO
 generalize A9.sum4 part 0=c at HS HO
 have HQ:=B0.mk (A9.amt_ q);have HD:=B0.mk (A9.amt_ c);generalize A9.amt q=bq at HQ HO
 generalize A9.amt c=bc at HD HO
 have g1:=Lib.cell?_alloc_some (.cells #[.int .i64 x.f0,.int .i64 x.f1,.int .i64 x.f2,.int .i64 x.f3,.int .i64 x.f4] 110 (0,0)) h1;clear h1 hC hc0 hl
 cases bq with
 | true=>
  obtain rfl:ov = !bc:=HO.out;clear HO;go_enter Tryz.func135,Tryz.ntmps135;go_wp2_with (first | (go_at_call 137;refine (F4.calls A0 c0 l0 x.f0 x.f1 part _ (Kd.C_alloc HC.out _) HC0.out HF.out).mono ?_;rintro e w5 ⟨v,rfl,ho,hb⟩;obtain ⟨A1,c1,rfl,hc1,hr1⟩:=Kd.R_reads ho;replace HB:=B0.mk (D0 (I8 HB.out _) hb);have HR1:=B0.mk hr1;have HC1:=B0.mk hc1;clear ho hb hr1 hc1) | (go_at_call 136;refine (H3.calls (part.length+1) A1 c1 part q c _ HR1.out HC1.out HS.out).mono ?_;rintro e w6 ⟨rfl,hb⟩;replace HB:=B0.mk (D0 HB.out hb);clear hb) | (go_at_call_of 130 (Value.int .i64 q);refine (L7.calls q _ _ HQ.out).mono ?_;rintro e w7 ⟨rfl,⟨nd,rfl⟩⟩) | (go_at_call_of 130 (Value.int .i64 c);refine (L7.calls c _ _ HD.out).mono ?_;rintro e w8 ⟨rfl,⟨nd,rfl⟩⟩))
  go_ret;exact ⟨rs_,bb_⟩
 | false=>
  obtain rfl:ov=true:=HO.out;clear HO;go_enter Tryz.func135,Tryz.ntmps135;go_wp2_with (first | (go_at_call 137;refine (F4.calls A0 c0 l0 x.f0 x.f1 part _ (Kd.C_alloc HC.out _) HC0.out HF.out).mono ?_;rintro e w5 ⟨v,rfl,ho,hb⟩;obtain ⟨A1,c1,rfl,hc1,hr1⟩:=Kd.R_reads ho;replace HB:=B0.mk (D0 (I8 HB.out _) hb);have HR1:=B0.mk hr1;have HC1:=B0.mk hc1;clear ho hb hr1 hc1) | (go_at_call 136;refine (H3.calls (part.length+1) A1 c1 part q c _ HR1.out HC1.out HS.out).mono ?_;rintro e w6 ⟨rfl,hb⟩;replace HB:=B0.mk (D0 HB.out hb);clear hb) | (go_at_call 130;refine (L7.calls q _ _ HQ.out).mono ?_;rintro e w7 ⟨rfl,⟨nd,rfl⟩⟩))
  go_ret;exact ⟨rs_,bb_⟩
theorem A9.pred {B:Nat} {A0:Option Addr} {c0:Nat} {l0:List (S110)} {w:World} (h1:w.cell? ⟨B,0,none⟩=some (.slice A0 l0.length c0)) (hC:Kd.C k110 w A0 l0.length l0) (hc0:l0.length≤c0) (hl:l0.length<1048577) :
 X0.FnB Tryz.prog 135 #[.pointer (some ⟨B,0,none⟩)] w (fun x:S110=>.agg #[.int .i64 x.f0,.int .i64 x.f1,.int .i64 x.f2,.int .i64 x.f3,.int .i64 x.f4]) (A9.over l0):=
 ⟨_,Tryz.func135,by kernel_rfl,rfl,fun x W hW=>A9.clo B A0 c0 l0 x W ((hW.cell (World.block_lt_of_cell? w _ h1)).trans h1) (Kd.C_below hC hW) hc0 hl⟩
def A9.T4:Bool×List (List Nat×List Nat):=(true,[([],[]),([0],[0]),([1],[1]),([2,1],[2]),([3],[3]),([4,3],[3,4]),([5,3,3],[3,5]),([6],[6]),([6],[6]),([8,6],[6,8]),([7,9,6],[6,7,9]),([10,6],[6,10]),([6],[6]),([11,12,6,6],[6,11,12]),([13,6],[6,13]),([6,14,3],[3,6,14]),([3,15],[3,15])])
def A9.B4:List Nat:=[0,1,3,7,15,31,63,127,127,383,1023,2047,127,8191,16383,32767,65535]
theorem A9.tab4:rtab .any (C8x Tryz.f92 4)=A9.T4:=by kernel_rfl
theorem A9.bits4:A3e A9.T4.2 A9.B4=true:=by kernel_rfl
theorem A9.step_ (l:List (S110)) (n:Nat) (x:Int) (h0:0≤x):A9.chk l (n+1) x.toNat=if A9.form (A4 l x)=true then (if x>0 then (if 0≤A9.cmp (A4 l (x-1)) (A4 l x) then false else A9.chk l n (x+1).toNat) else A9.chk l n (x+1).toNat) else false:=by
 have e1:(x+1).toNat=x.toNat+1:=by omega
 have e2:(x-1).toNat=x.toNat-1:=by omega
 have e3:x>0↔0<x.toNat:=by omega
 unfold A4
 rw [A9.chk,e1,e2]
 generalize A9.form (l.getD x.toNat z110)=b
 generalize A9.cmp (l.getD (x.toNat-1) z110) (l.getD x.toNat z110)=c
 cases b
 ·
  simp
 ·
  by_cases h1:0<x.toNat
  ·
   have h2:0<x:=e3.2 h1
   by_cases h3:0≤c
   ·
    simp [h1,h2,h3]
   ·
    simp [h1,h2,h3]
  ·
   have h2:¬0<x:=fun h=>h1 (e3.1 h);simp [h1,h2]
set_option maxHeartbeats 16000000 in
theorem A9.calls (A0:Option Addr) (c0:Nat) (l0:List (S110)) (r:Bool) (w:World) (hr0:Kd.C k110 w A0 l0.length l0) (hc0:l0.length≤c0) (h:A9.f l0=some r) :
 Calls Tryz.prog 92 #[.slice A0 l0.length c0] w fun e w'=>e = .returned (.bool r)∧Below w.heap.size w w':=by
 have hu110:=Tryz.underlying110;unfold A9.f at h
 by_cases hl:l0.length<1048577
 ·
  rw [if_pos hl] at h;obtain rfl:=Option.some.inj h;clear h;have HL:=B0.mk hl;have HC0:=B0.mk hc0;have HQ:B0 (A9.ok l0=if A9.chk l0 l0.length 0=true then (if (l0.length:Int)>120 then false else !(l0.any (A9.over l0))) else false):=⟨rfl⟩;generalize A9.ok l0=r at HQ ⊢
  generalize hq0:A9.chk l0 l0.length 0=q0 at HQ
  have HK:=B0.mk hq0;clear hq0;have HW:=B0.mk (I8 (Below.refl w.heap.size w) (.cells #[.slice A0 l0.length c0] 33 (0,0)));have HX:B0 ((w.alloc (.cells #[.slice A0 l0.length c0] 33 (0,0))).cell? ⟨w.heap.size,0,none⟩=some (.slice A0 l0.length c0)):=⟨DG.cell_new w #[.slice A0 l0.length c0] 33 0⟩;have HR1:=B0.mk (Kd.C_alloc hr0 (.cells #[.slice A0 l0.length c0] 33 (0,0)));clear hr0 hc0 hl;go_enter Tryz.func92,Tryz.ntmps92;go_wp2;generalize w.alloc (.cells #[.slice A0 l0.length c0] 33 (0,0))=w1 at HW HX HR1 ⊢
  have HB:=B0.mk (Below.refl w1.heap.size w1);go_loopg [7] l0.length (fun kq v7 w'=>∃ (x:Int),v7 = .int .i64 x∧B0 (0≤x∧x≤l0.length∧kq=(l0.length-x).toNat∧A9.chk l0 (l0.length-x).toNat x.toNat=q0)∧B0 (Below w1.heap.size w1 w'))
  case atStart=>exact ⟨0,rfl,⟨Int.le_refl _,by omega,by omega,by rw [Int.sub_zero,Int.toNat_natCast];exact HK.out⟩,⟨HB.out⟩⟩
  case round=>
   clear HB;obtain ⟨x,rfl,HA,HB⟩:=hrel
   by_cases c3:x<(l0.length:Int)
   ·
    have c3b0:decide (x<(l0.length:Int))=true:=decide_eq_true c3;have p1:0≤x:=HA.out.1
    have HKx:B0 (A9.chk l0 ((l0.length-(x+1)).toNat+1) x.toNat=q0):=⟨by
     have h1:=HA.out.2.2.2;have e1:(l0.length-x).toNat=(l0.length-(x+1)).toNat+1:=by omega
     rw [e1] at h1;exact h1⟩
    have C3:=B0.mk c3;obtain ⟨ad,e,hx_0,hx_1,hx_2,hx_3,hx_4⟩:=A4v HR1.out x p1 c3;cases e;replace hx_0:=(HB.out.cell (World.block_lt_of_cell? w1 _ hx_0)).trans hx_0;replace hx_1:=(HB.out.cell (World.block_lt_of_cell? w1 _ hx_1)).trans hx_1;replace hx_2:=(HB.out.cell (World.block_lt_of_cell? w1 _ hx_2)).trans hx_2;replace hx_3:=(HB.out.cell (World.block_lt_of_cell? w1 _ hx_3)).trans hx_3;replace hx_4:=(HB.out.cell (World.block_lt_of_cell? w1 _ hx_4)).trans hx_4;replace p1:=eq_true p1;have q1:=eq_true c3;clear c3;go_upto_region 4 with (first | ((with_reducible refine P7 (N:=4) rfl ?_);refine be_ 4 (cs:=#[.int .i64 0,.int .i64 0,.int .i64 0,.int .i64 0,.int .i64 0]) (t:=110) ?_;intro gb hg w6 hbox hb;have n_:=as3_ (D0 (bb_) hb) (hbox) ((by rw [hg];exact (G4 (bb_)):w1.heap.size≤gb));clear HB;obtain ⟨HB,BK,GE⟩:=n_;clear hb hbox hg;obtain ⟨_,_,_,_,_,_,_,_,_,_⟩:=ce5_ BK.out))
    (try simp only [Act.put,List.setIfInBounds_toArray,List.set_cons_zero,List.set_cons_succ])
    have n0_:B0 ((((((w6.setCell ⟨gb,0,none⟩ (.int .i64 ((A4 l0 x).f0))).setCell ⟨gb,1,none⟩ (.int .i64 ((A4 l0 x).f1))).setCell ⟨gb,2,none⟩ (.int .i64 ((A4 l0 x).f2))).setCell ⟨gb,3,none⟩ (.int .i64 ((A4 l0 x).f3))).setCell ⟨gb,4,none⟩ (.int .i64 ((A4 l0 x).f4))).heap[gb]? = some (.cells #[.int .i64 ((A4 l0 x).f0),.int .i64 ((A4 l0 x).f1),.int .i64 ((A4 l0 x).f2),.int .i64 ((A4 l0 x).f3),.int .i64 ((A4 l0 x).f4)] 110 (0,0))):=⟨by refine pc_ (A6m (cs:=#[.int .i64 ((A4 l0 x).f0),.int .i64 ((A4 l0 x).f1),.int .i64 ((A4 l0 x).f2),.int .i64 ((A4 l0 x).f3),.int .i64 0]) ?_ 4 _ rfl);refine pc_ (A6m (cs:=#[.int .i64 ((A4 l0 x).f0),.int .i64 ((A4 l0 x).f1),.int .i64 ((A4 l0 x).f2),.int .i64 0,.int .i64 0]) ?_ 3 _ rfl);refine pc_ (A6m (cs:=#[.int .i64 ((A4 l0 x).f0),.int .i64 ((A4 l0 x).f1),.int .i64 0,.int .i64 0,.int .i64 0]) ?_ 2 _ rfl);refine pc_ (A6m (cs:=#[.int .i64 ((A4 l0 x).f0),.int .i64 0,.int .i64 0,.int .i64 0,.int .i64 0]) ?_ 1 _ rfl);refine pc_ (A6m (cs:=#[.int .i64 0,.int .i64 0,.int .i64 0,.int .i64 0,.int .i64 0]) ?_ 0 _ rfl);exact pb_ BK.out⟩
    have n1_:B0 (Below w1.heap.size w1 (((((w6.setCell ⟨gb,0,none⟩ (.int .i64 ((A4 l0 x).f0))).setCell ⟨gb,1,none⟩ (.int .i64 ((A4 l0 x).f1))).setCell ⟨gb,2,none⟩ (.int .i64 ((A4 l0 x).f2))).setCell ⟨gb,3,none⟩ (.int .i64 ((A4 l0 x).f3))).setCell ⟨gb,4,none⟩ (.int .i64 ((A4 l0 x).f4)))):=⟨bg_ GE.out⟩;(try clear BK);(try clear HB);generalize (((((w6.setCell ⟨gb,0,none⟩ (.int .i64 ((A4 l0 x).f0))).setCell ⟨gb,1,none⟩ (.int .i64 ((A4 l0 x).f1))).setCell ⟨gb,2,none⟩ (.int .i64 ((A4 l0 x).f2))).setCell ⟨gb,3,none⟩ (.int .i64 ((A4 l0 x).f3))).setCell ⟨gb,4,none⟩ (.int .i64 ((A4 l0 x).f4)))=w15 at n0_ n1_ ⊢
    have BK:=n0_;have HB:=n1_;clear n0_ n1_;have n_:=as2_ (A0n BK.out) (Q5 HB.out);clear BK HB;obtain ⟨BK,HB⟩:=n_;have HFm:=B0.mk (A9.form_ (A4 l0 x));have HSt:=B0.mk (A9.step_ l0 (l0.length-(x+1)).toNat x HA.out.1)
    cases hfm:A9.form (A4 l0 x) with
    | false=>
     have hq:q0=false:=by
      have h1:=HKx.out;have h2:=HSt.out;rw [h1,hfm] at h2;simpa using h2
     rw [hfm] at HFm
     obtain rfl:r=false:=by
      have h1:=HQ.out;rw [hq] at h1;simpa using h1
     clear HQ HSt hfm hq;refine A3m (n:=17) (S:=fun w'=>w'.cell? ⟨gb,0,none⟩=some (.int .i64 ((A4 l0 x).f0))∧w'.cell? ⟨gb,1,none⟩=some (.int .i64 ((A4 l0 x).f1))∧w'.cell? ⟨gb,2,none⟩=some (.int .i64 ((A4 l0 x).f2))∧w'.cell? ⟨gb,3,none⟩=some (.int .i64 ((A4 l0 x).f3))∧w'.cell? ⟨gb,4,none⟩=some (.int .i64 ((A4 l0 x).f4))∧w'.cell? ⟨w.heap.size,0,none⟩=some (.slice (some ad) l0.length c0)) (ds:=[]) (ba_ 17 0) kr_ rfl rfl ⟨(C4 BK.out 0).trans rfl,(C4 BK.out 1).trans rfl,(C4 BK.out 2).trans rfl,(C4 BK.out 3).trans rfl,(C4 BK.out 4).trans rfl,((HB.out.cell (World.block_lt_of_cell? w1 _ HX.out)).trans HX.out)⟩ (fun hHeld=>?_);refine A0t A9.tab4 A9.bits4 (fun HT_ HW_=>?_)
     refine ta_ 0 12 HT_.out HW_.out hHeld (ba_ 17 1) ?_;refine one_ (i:=1) (N:=some 13) (ba_ 17 3) rfl rfl (A5a HT_.out kr_) (by decide) (fun K hK=>?_)
     refine A4c Tryz.func132 kr_ rfl #[.agg #[.int .i64 ((A4 l0 x).f0),.int .i64 ((A4 l0 x).f1),.int .i64 ((A4 l0 x).f2),.int .i64 ((A4 l0 x).f3),.int .i64 ((A4 l0 x).f4)]] (by rfl) rfl rfl (by (try simp only [List.map_toArray,List.map_cons,List.map_nil]);first | done | rfl | (simp only [A2z];rfl)) ?_
     with_reducible refine (R9.calls _ _ _ _ _ false _ HFm.out).mono ?_
     rintro e w7 ⟨rfl,hb⟩;refine ⟨_,rfl,?_⟩
     have n_:=as2_ (bl_ BK.out hb) (D0 (bg_ GE.out) hb);clear BK HB;obtain ⟨BK,HB⟩:=n_;clear hb;refine hK.out _ _ ⟨(C4 BK.out 0).trans rfl,(C4 BK.out 1).trans rfl,(C4 BK.out 2).trans rfl,(C4 BK.out 3).trans rfl,(C4 BK.out 4).trans rfl,((HB.out.cell (World.block_lt_of_cell? w1 _ HX.out)).trans HX.out)⟩ (fun hHeld=>?_)
     clear hK K;refine A0l (a':=?_) ?_ ?_
     rotate_left
     ·
      show Act.put _ (some 13) _=_
      exact sp_
     refine pu_ 2 14 HT_.out (ba_ 17 7) ?_;refine pu_ 3 15 HT_.out (ba_ 17 15) ?_;refine sk_ 4 16 HT_.out (ba_ 17 31) ?_;refine sk_ 5 17 HT_.out (ba_ 17 63) ?_;refine sk_ 6 18 HT_.out (ba_ 17 127) ?_;refine sk_ 7 19 HT_.out (ba_ 17 255) ?_;refine sk_ 8 20 HT_.out (ba_ 17 511) ?_;refine sk_ 9 21 HT_.out (ba_ 17 1023) ?_;refine sk_ 10 22 HT_.out (ba_ 17 2047) ?_;refine sk_ 11 23 HT_.out (ba_ 17 4095) ?_;refine sk_ 12 24 HT_.out (ba_ 17 8191) ?_;refine sk_ 13 25 HT_.out (ba_ 17 16383) ?_;refine sk_ 14 26 HT_.out (ba_ 17 32767) ?_;refine sk_ 15 27 HT_.out (ba_ 17 65535) ?_;refine pu_ 16 28 HT_.out (ba_ 17 131071) ?_;refine A9d (A3i HT_.out kr_) ?_
     go_wp2;go_ret;exact ⟨rs_,D0 HW.out (bg_ GE.out)⟩
    | true=>
     rw [hfm] at HFm
     by_cases c10:x>0
     ·
      have c10b0:decide (0<x)=true:=decide_eq_true c10
      have hw1:wrap64 (x-1)=x-1:=by
       have h1:=HA.out;have h2:=HL.out;unfold wrap64
       omega
      have PP:B0 (0≤wrap64 (x-1)):=⟨by omega⟩
      have QQ:B0 (wrap64 (x-1)<(l0.length:Int)):=⟨by have:=C3.out;omega⟩
      have HCm:=B0.mk (A9.cmp_ (A4 l0 (wrap64 (x-1))) (A4 l0 x))
      have HS2:B0 (A9.chk l0 ((l0.length-(x+1)).toNat+1) x.toNat=if 0≤A9.cmp (A4 l0 (wrap64 (x-1))) (A4 l0 x) then false else A9.chk l0 (l0.length-(x+1)).toNat (x+1).toNat):=⟨by
       have h1:=HSt.out;rw [hfm,if_pos rfl,if_pos c10,← hw1] at h1;exact h1⟩
      clear HSt hfm c10 hw1;generalize A9.cmp (A4 l0 (wrap64 (x-1))) (A4 l0 x)=cc at HCm HS2
      by_cases c11:cc≥0
      ·
       have c11b0:decide (0≤cc)=true:=decide_eq_true c11
       have hq:q0=false:=by
        have h2:=HS2.out;rw [if_pos c11] at h2;exact HKx.out.symm.trans h2
       obtain rfl:r=false:=by
        have h1:=HQ.out;rw [hq] at h1;simpa using h1
       clear HQ HS2 hq c11;obtain ⟨ad2,e2,hx2_0,hx2_1,hx2_2,hx2_3,hx2_4⟩:=A4v HR1.out (wrap64 (x-1)) PP.out QQ.out;have hw_4:=hx2_4;have hw_3:=hx2_3;have hw_2:=hx2_2;have hw_1:=hx2_1;have hw_0:=hx2_0;obtain rfl:ad=ad2:=(by injection e2)
       replace hx2_0:=(HB.out.cell (World.block_lt_of_cell? w1 _ hx2_0)).trans hx2_0;replace hx2_1:=(HB.out.cell (World.block_lt_of_cell? w1 _ hx2_1)).trans hx2_1;replace hx2_2:=(HB.out.cell (World.block_lt_of_cell? w1 _ hx2_2)).trans hx2_2;replace hx2_3:=(HB.out.cell (World.block_lt_of_cell? w1 _ hx2_3)).trans hx2_3;replace hx2_4:=(HB.out.cell (World.block_lt_of_cell? w1 _ hx2_4)).trans hx2_4;have p2:=eq_true PP.out;have q2:=eq_true QQ.out
       refine A3m (n:=17) (S:=fun w'=>w'.cell? ⟨gb,0,none⟩=some (.int .i64 ((A4 l0 x).f0))∧w'.cell? ⟨gb,1,none⟩=some (.int .i64 ((A4 l0 x).f1))∧w'.cell? ⟨gb,2,none⟩=some (.int .i64 ((A4 l0 x).f2))∧w'.cell? ⟨gb,3,none⟩=some (.int .i64 ((A4 l0 x).f3))∧w'.cell? ⟨gb,4,none⟩=some (.int .i64 ((A4 l0 x).f4))∧w'.cell? ⟨w.heap.size,0,none⟩=some (.slice (some ad) l0.length c0)∧w'.cell? (ad.add ((wrap64 (x-1)).toNat*5))=some (.int .i64 ((A4 l0 (wrap64 (x-1))).f0))∧w'.cell? ⟨(ad.add ((wrap64 (x-1)).toNat*5)).block,(ad.add ((wrap64 (x-1)).toNat*5)).off+1,none⟩=some (.int .i64 ((A4 l0 (wrap64 (x-1))).f1))∧w'.cell? ⟨(ad.add ((wrap64 (x-1)).toNat*5)).block,(ad.add ((wrap64 (x-1)).toNat*5)).off+2,none⟩=some (.int .i64 ((A4 l0 (wrap64 (x-1))).f2))∧w'.cell? ⟨(ad.add ((wrap64 (x-1)).toNat*5)).block,(ad.add ((wrap64 (x-1)).toNat*5)).off+3,none⟩=some (.int .i64 ((A4 l0 (wrap64 (x-1))).f3))∧w'.cell? ⟨(ad.add ((wrap64 (x-1)).toNat*5)).block,(ad.add ((wrap64 (x-1)).toNat*5)).off+4,none⟩=some (.int .i64 ((A4 l0 (wrap64 (x-1))).f4))) (ds:=[]) (ba_ 17 0) kr_ rfl rfl ⟨(C4 BK.out 0).trans rfl,(C4 BK.out 1).trans rfl,(C4 BK.out 2).trans rfl,(C4 BK.out 3).trans rfl,(C4 BK.out 4).trans rfl,((HB.out.cell (World.block_lt_of_cell? w1 _ HX.out)).trans HX.out),((HB.out.cell (World.block_lt_of_cell? w1 _ hw_0)).trans hw_0),((HB.out.cell (World.block_lt_of_cell? w1 _ hw_1)).trans hw_1),((HB.out.cell (World.block_lt_of_cell? w1 _ hw_2)).trans hw_2),((HB.out.cell (World.block_lt_of_cell? w1 _ hw_3)).trans hw_3),((HB.out.cell (World.block_lt_of_cell? w1 _ hw_4)).trans hw_4)⟩ (fun hHeld=>?_);refine A0t A9.tab4 A9.bits4 (fun HT_ HW_=>?_)
       refine ta_ 0 12 HT_.out HW_.out hHeld (ba_ 17 1) ?_;refine one_ (i:=1) (N:=some 13) (ba_ 17 3) rfl rfl (A5a HT_.out kr_) (by decide) (fun K hK=>?_)
       refine A4c Tryz.func132 kr_ rfl #[.agg #[.int .i64 ((A4 l0 x).f0),.int .i64 ((A4 l0 x).f1),.int .i64 ((A4 l0 x).f2),.int .i64 ((A4 l0 x).f3),.int .i64 ((A4 l0 x).f4)]] (by rfl) rfl rfl (by (try simp only [List.map_toArray,List.map_cons,List.map_nil]);first | done | rfl | (simp only [A2z];rfl)) ?_
       with_reducible refine (R9.calls _ _ _ _ _ true _ HFm.out).mono ?_
       rintro e w7 ⟨rfl,hb⟩;refine ⟨_,rfl,?_⟩
       have n_:=as2_ (bl_ BK.out hb) (D0 (bg_ GE.out) hb);clear BK HB;obtain ⟨BK,HB⟩:=n_;clear hb;refine hK.out _ _ ⟨(C4 BK.out 0).trans rfl,(C4 BK.out 1).trans rfl,(C4 BK.out 2).trans rfl,(C4 BK.out 3).trans rfl,(C4 BK.out 4).trans rfl,((HB.out.cell (World.block_lt_of_cell? w1 _ HX.out)).trans HX.out),((HB.out.cell (World.block_lt_of_cell? w1 _ hw_0)).trans hw_0),((HB.out.cell (World.block_lt_of_cell? w1 _ hw_1)).trans hw_1),((HB.out.cell (World.block_lt_of_cell? w1 _ hw_2)).trans hw_2),((HB.out.cell (World.block_lt_of_cell? w1 _ hw_3)).trans hw_3),((HB.out.cell (World.block_lt_of_cell? w1 _ hw_4)).trans hw_4)⟩ (fun hHeld=>?_)
       clear hK K;refine A0l (a':=?_) ?_ ?_
       rotate_left
       ·
        show Act.put _ (some 13) _=_
        exact sp_
       refine pu_ 2 14 HT_.out (ba_ 17 7) ?_;refine pu_ 3 15 HT_.out (ba_ 17 15) ?_;refine pu_ 4 16 HT_.out (ba_ 17 31) ?_;refine pu_ 5 17 HT_.out (ba_ 17 63) ?_;refine pu_ 6 18 HT_.out (ba_ 17 127) ?_;refine ta_ 7 19 HT_.out HW_.out hHeld (ba_ 17 255) ?_;refine pu_ 8 20 HT_.out (ba_ 17 511) ?_;refine pu_ 9 21 HT_.out (ba_ 17 1023) ?_;refine pu_ 10 22 HT_.out (ba_ 17 2047) ?_;refine ta_ 11 23 HT_.out HW_.out hHeld (ba_ 17 4095) ?_;refine ta_ 12 24 HT_.out HW_.out hHeld (ba_ 17 8191) ?_;refine one_ (i:=13) (N:=some 25) (ba_ 17 16383) rfl rfl (A5a HT_.out kr_) (by decide) (fun K hK=>?_)
       refine A4c Tryz.func133 kr_ rfl #[.agg #[.int .i64 ((A4 l0 (wrap64 (x-1))).f0),.int .i64 ((A4 l0 (wrap64 (x-1))).f1),.int .i64 ((A4 l0 (wrap64 (x-1))).f2),.int .i64 ((A4 l0 (wrap64 (x-1))).f3),.int .i64 ((A4 l0 (wrap64 (x-1))).f4)],.agg #[.int .i64 ((A4 l0 x).f0),.int .i64 ((A4 l0 x).f1),.int .i64 ((A4 l0 x).f2),.int .i64 ((A4 l0 x).f3),.int .i64 ((A4 l0 x).f4)]] (by rfl) rfl rfl (by (try simp only [List.map_toArray,List.map_cons,List.map_nil]);first | done | rfl | (simp only [A2z];rfl)) ?_
       with_reducible refine (L3.calls 1 _ _ _ _ _ _ _ _ _ _ cc _ HCm.out).mono ?_
       rintro e w8 ⟨rfl,hb⟩;refine ⟨_,rfl,?_⟩
       have n_:=as2_ (bl_ BK.out hb) (D0 (bg_ GE.out) hb);clear BK HB;obtain ⟨BK,HB⟩:=n_;clear hb;refine hK.out _ _ ⟨(C4 BK.out 0).trans rfl,(C4 BK.out 1).trans rfl,(C4 BK.out 2).trans rfl,(C4 BK.out 3).trans rfl,(C4 BK.out 4).trans rfl,((HB.out.cell (World.block_lt_of_cell? w1 _ HX.out)).trans HX.out),((HB.out.cell (World.block_lt_of_cell? w1 _ hw_0)).trans hw_0),((HB.out.cell (World.block_lt_of_cell? w1 _ hw_1)).trans hw_1),((HB.out.cell (World.block_lt_of_cell? w1 _ hw_2)).trans hw_2),((HB.out.cell (World.block_lt_of_cell? w1 _ hw_3)).trans hw_3),((HB.out.cell (World.block_lt_of_cell? w1 _ hw_4)).trans hw_4)⟩ (fun hHeld=>?_)
       clear hK K;refine A0l (a':=?_) ?_ ?_
       rotate_left
       ·
        show Act.put _ (some 25) _=_
        exact sp_
       refine pu_ 14 26 HT_.out (ba_ 17 32767) ?_;refine pu_ 15 27 HT_.out (ba_ 17 65535) ?_;refine pu_ 16 28 HT_.out (ba_ 17 131071) ?_;refine A9d (A3i HT_.out kr_) ?_
       go_wp2;go_ret;exact ⟨rs_,D0 HW.out (bg_ GE.out)⟩
      ·
       have c11b0:decide (0≤cc)=false:=decide_eq_false c11
       have NX:B0 (A9.chk l0 (l0.length-(x+1)).toNat (x+1).toNat=q0):=⟨by
        have h2:=HS2.out;rw [if_neg c11] at h2;exact h2.symm.trans HKx.out⟩
       clear HS2 c11;obtain ⟨ad2,e2,hx2_0,hx2_1,hx2_2,hx2_3,hx2_4⟩:=A4v HR1.out (wrap64 (x-1)) PP.out QQ.out;have hw_4:=hx2_4;have hw_3:=hx2_3;have hw_2:=hx2_2;have hw_1:=hx2_1;have hw_0:=hx2_0;obtain rfl:ad=ad2:=(by injection e2)
       replace hx2_0:=(HB.out.cell (World.block_lt_of_cell? w1 _ hx2_0)).trans hx2_0;replace hx2_1:=(HB.out.cell (World.block_lt_of_cell? w1 _ hx2_1)).trans hx2_1;replace hx2_2:=(HB.out.cell (World.block_lt_of_cell? w1 _ hx2_2)).trans hx2_2;replace hx2_3:=(HB.out.cell (World.block_lt_of_cell? w1 _ hx2_3)).trans hx2_3;replace hx2_4:=(HB.out.cell (World.block_lt_of_cell? w1 _ hx2_4)).trans hx2_4;have p2:=eq_true PP.out;have q2:=eq_true QQ.out
       refine A3m (n:=17) (S:=fun w'=>w'.cell? ⟨gb,0,none⟩=some (.int .i64 ((A4 l0 x).f0))∧w'.cell? ⟨gb,1,none⟩=some (.int .i64 ((A4 l0 x).f1))∧w'.cell? ⟨gb,2,none⟩=some (.int .i64 ((A4 l0 x).f2))∧w'.cell? ⟨gb,3,none⟩=some (.int .i64 ((A4 l0 x).f3))∧w'.cell? ⟨gb,4,none⟩=some (.int .i64 ((A4 l0 x).f4))∧w'.cell? ⟨w.heap.size,0,none⟩=some (.slice (some ad) l0.length c0)∧w'.cell? (ad.add ((wrap64 (x-1)).toNat*5))=some (.int .i64 ((A4 l0 (wrap64 (x-1))).f0))∧w'.cell? ⟨(ad.add ((wrap64 (x-1)).toNat*5)).block,(ad.add ((wrap64 (x-1)).toNat*5)).off+1,none⟩=some (.int .i64 ((A4 l0 (wrap64 (x-1))).f1))∧w'.cell? ⟨(ad.add ((wrap64 (x-1)).toNat*5)).block,(ad.add ((wrap64 (x-1)).toNat*5)).off+2,none⟩=some (.int .i64 ((A4 l0 (wrap64 (x-1))).f2))∧w'.cell? ⟨(ad.add ((wrap64 (x-1)).toNat*5)).block,(ad.add ((wrap64 (x-1)).toNat*5)).off+3,none⟩=some (.int .i64 ((A4 l0 (wrap64 (x-1))).f3))∧w'.cell? ⟨(ad.add ((wrap64 (x-1)).toNat*5)).block,(ad.add ((wrap64 (x-1)).toNat*5)).off+4,none⟩=some (.int .i64 ((A4 l0 (wrap64 (x-1))).f4))) (ds:=[]) (ba_ 17 0) kr_ rfl rfl ⟨(C4 BK.out 0).trans rfl,(C4 BK.out 1).trans rfl,(C4 BK.out 2).trans rfl,(C4 BK.out 3).trans rfl,(C4 BK.out 4).trans rfl,((HB.out.cell (World.block_lt_of_cell? w1 _ HX.out)).trans HX.out),((HB.out.cell (World.block_lt_of_cell? w1 _ hw_0)).trans hw_0),((HB.out.cell (World.block_lt_of_cell? w1 _ hw_1)).trans hw_1),((HB.out.cell (World.block_lt_of_cell? w1 _ hw_2)).trans hw_2),((HB.out.cell (World.block_lt_of_cell? w1 _ hw_3)).trans hw_3),((HB.out.cell (World.block_lt_of_cell? w1 _ hw_4)).trans hw_4)⟩ (fun hHeld=>?_);refine A0t A9.tab4 A9.bits4 (fun HT_ HW_=>?_)
       refine ta_ 0 12 HT_.out HW_.out hHeld (ba_ 17 1) ?_;refine one_ (i:=1) (N:=some 13) (ba_ 17 3) rfl rfl (A5a HT_.out kr_) (by decide) (fun K hK=>?_)
       refine A4c Tryz.func132 kr_ rfl #[.agg #[.int .i64 ((A4 l0 x).f0),.int .i64 ((A4 l0 x).f1),.int .i64 ((A4 l0 x).f2),.int .i64 ((A4 l0 x).f3),.int .i64 ((A4 l0 x).f4)]] (by rfl) rfl rfl (by (try simp only [List.map_toArray,List.map_cons,List.map_nil]);first | done | rfl | (simp only [A2z];rfl)) ?_
       with_reducible refine (R9.calls _ _ _ _ _ true _ HFm.out).mono ?_
       rintro e w7 ⟨rfl,hb⟩;refine ⟨_,rfl,?_⟩
       have n_:=as2_ (bl_ BK.out hb) (D0 (bg_ GE.out) hb);clear BK HB;obtain ⟨BK,HB⟩:=n_;clear hb;refine hK.out _ _ ⟨(C4 BK.out 0).trans rfl,(C4 BK.out 1).trans rfl,(C4 BK.out 2).trans rfl,(C4 BK.out 3).trans rfl,(C4 BK.out 4).trans rfl,((HB.out.cell (World.block_lt_of_cell? w1 _ HX.out)).trans HX.out),((HB.out.cell (World.block_lt_of_cell? w1 _ hw_0)).trans hw_0),((HB.out.cell (World.block_lt_of_cell? w1 _ hw_1)).trans hw_1),((HB.out.cell (World.block_lt_of_cell? w1 _ hw_2)).trans hw_2),((HB.out.cell (World.block_lt_of_cell? w1 _ hw_3)).trans hw_3),((HB.out.cell (World.block_lt_of_cell? w1 _ hw_4)).trans hw_4)⟩ (fun hHeld=>?_)
       clear hK K;refine A0l (a':=?_) ?_ ?_
       rotate_left
       ·
        show Act.put _ (some 13) _=_
        exact sp_
       refine pu_ 2 14 HT_.out (ba_ 17 7) ?_;refine pu_ 3 15 HT_.out (ba_ 17 15) ?_;refine pu_ 4 16 HT_.out (ba_ 17 31) ?_;refine pu_ 5 17 HT_.out (ba_ 17 63) ?_;refine pu_ 6 18 HT_.out (ba_ 17 127) ?_;refine ta_ 7 19 HT_.out HW_.out hHeld (ba_ 17 255) ?_;refine pu_ 8 20 HT_.out (ba_ 17 511) ?_;refine pu_ 9 21 HT_.out (ba_ 17 1023) ?_;refine pu_ 10 22 HT_.out (ba_ 17 2047) ?_;refine ta_ 11 23 HT_.out HW_.out hHeld (ba_ 17 4095) ?_;refine ta_ 12 24 HT_.out HW_.out hHeld (ba_ 17 8191) ?_;refine one_ (i:=13) (N:=some 25) (ba_ 17 16383) rfl rfl (A5a HT_.out kr_) (by decide) (fun K hK=>?_)
       refine A4c Tryz.func133 kr_ rfl #[.agg #[.int .i64 ((A4 l0 (wrap64 (x-1))).f0),.int .i64 ((A4 l0 (wrap64 (x-1))).f1),.int .i64 ((A4 l0 (wrap64 (x-1))).f2),.int .i64 ((A4 l0 (wrap64 (x-1))).f3),.int .i64 ((A4 l0 (wrap64 (x-1))).f4)],.agg #[.int .i64 ((A4 l0 x).f0),.int .i64 ((A4 l0 x).f1),.int .i64 ((A4 l0 x).f2),.int .i64 ((A4 l0 x).f3),.int .i64 ((A4 l0 x).f4)]] (by rfl) rfl rfl (by (try simp only [List.map_toArray,List.map_cons,List.map_nil]);first | done | rfl | (simp only [A2z];rfl)) ?_
       with_reducible refine (L3.calls 1 _ _ _ _ _ _ _ _ _ _ cc _ HCm.out).mono ?_
       rintro e w8 ⟨rfl,hb⟩;refine ⟨_,rfl,?_⟩
       have n_:=as2_ (bl_ BK.out hb) (D0 (bg_ GE.out) hb);clear BK HB;obtain ⟨BK,HB⟩:=n_;clear hb;refine hK.out _ _ ⟨(C4 BK.out 0).trans rfl,(C4 BK.out 1).trans rfl,(C4 BK.out 2).trans rfl,(C4 BK.out 3).trans rfl,(C4 BK.out 4).trans rfl,((HB.out.cell (World.block_lt_of_cell? w1 _ HX.out)).trans HX.out),((HB.out.cell (World.block_lt_of_cell? w1 _ hw_0)).trans hw_0),((HB.out.cell (World.block_lt_of_cell? w1 _ hw_1)).trans hw_1),((HB.out.cell (World.block_lt_of_cell? w1 _ hw_2)).trans hw_2),((HB.out.cell (World.block_lt_of_cell? w1 _ hw_3)).trans hw_3),((HB.out.cell (World.block_lt_of_cell? w1 _ hw_4)).trans hw_4)⟩ (fun hHeld=>?_)
       clear hK K;refine A0l (a':=?_) ?_ ?_
       rotate_left
       ·
        show Act.put _ (some 25) _=_
        exact sp_
       refine pu_ 14 26 HT_.out (ba_ 17 32767) ?_;refine pu_ 15 27 HT_.out (ba_ 17 65535) ?_;refine pu_ 16 28 HT_.out (ba_ 17 131071) ?_;refine A9d (A3i HT_.out kr_) ?_
       try go_wp2
       go_roundg (l0.length-(x+1)).toNat
       case measure=>have:=HA.out;have:=C3.out;omega
       case rel=>
        have h1:=HA.out;have h2:=C3.out;refine ⟨wrap64 (x+1),(rs_),⟨?_⟩,⟨bg_ GE.out⟩⟩
        have hw:wrap64 (x+1)=x+1:=by
         have:=HL.out;unfold wrap64
         omega
        rw [hw]
        exact ⟨by omega,by omega,rfl,NX.out⟩
     ·
      have c10b0:decide (0<x)=false:=decide_eq_false c10
      have NX:B0 (A9.chk l0 (l0.length-(x+1)).toNat (x+1).toNat=q0):=⟨by
       have h1:=HSt.out;rw [hfm,if_pos rfl,if_neg c10] at h1;exact h1.symm.trans HKx.out⟩
      clear HSt hfm c10;refine A3m (n:=17) (S:=fun w'=>w'.cell? ⟨gb,0,none⟩=some (.int .i64 ((A4 l0 x).f0))∧w'.cell? ⟨gb,1,none⟩=some (.int .i64 ((A4 l0 x).f1))∧w'.cell? ⟨gb,2,none⟩=some (.int .i64 ((A4 l0 x).f2))∧w'.cell? ⟨gb,3,none⟩=some (.int .i64 ((A4 l0 x).f3))∧w'.cell? ⟨gb,4,none⟩=some (.int .i64 ((A4 l0 x).f4))∧w'.cell? ⟨w.heap.size,0,none⟩=some (.slice (some ad) l0.length c0)) (ds:=[]) (ba_ 17 0) kr_ rfl rfl ⟨(C4 BK.out 0).trans rfl,(C4 BK.out 1).trans rfl,(C4 BK.out 2).trans rfl,(C4 BK.out 3).trans rfl,(C4 BK.out 4).trans rfl,((HB.out.cell (World.block_lt_of_cell? w1 _ HX.out)).trans HX.out)⟩ (fun hHeld=>?_);refine A0t A9.tab4 A9.bits4 (fun HT_ HW_=>?_)
      refine ta_ 0 12 HT_.out HW_.out hHeld (ba_ 17 1) ?_;refine one_ (i:=1) (N:=some 13) (ba_ 17 3) rfl rfl (A5a HT_.out kr_) (by decide) (fun K hK=>?_)
      refine A4c Tryz.func132 kr_ rfl #[.agg #[.int .i64 ((A4 l0 x).f0),.int .i64 ((A4 l0 x).f1),.int .i64 ((A4 l0 x).f2),.int .i64 ((A4 l0 x).f3),.int .i64 ((A4 l0 x).f4)]] (by rfl) rfl rfl (by (try simp only [List.map_toArray,List.map_cons,List.map_nil]);first | done | rfl | (simp only [A2z];rfl)) ?_
      with_reducible refine (R9.calls _ _ _ _ _ true _ HFm.out).mono ?_
      rintro e w7 ⟨rfl,hb⟩;refine ⟨_,rfl,?_⟩
      have n_:=as2_ (bl_ BK.out hb) (D0 (bg_ GE.out) hb);clear BK HB;obtain ⟨BK,HB⟩:=n_;clear hb;refine hK.out _ _ ⟨(C4 BK.out 0).trans rfl,(C4 BK.out 1).trans rfl,(C4 BK.out 2).trans rfl,(C4 BK.out 3).trans rfl,(C4 BK.out 4).trans rfl,((HB.out.cell (World.block_lt_of_cell? w1 _ HX.out)).trans HX.out)⟩ (fun hHeld=>?_)
      clear hK K;refine A0l (a':=?_) ?_ ?_
      rotate_left
      ·
       show Act.put _ (some 13) _=_
       exact sp_
      refine pu_ 2 14 HT_.out (ba_ 17 7) ?_;refine pu_ 3 15 HT_.out (ba_ 17 15) ?_;refine pu_ 4 16 HT_.out (ba_ 17 31) ?_;refine pu_ 5 17 HT_.out (ba_ 17 63) ?_;refine pu_ 6 18 HT_.out (ba_ 17 127) ?_;refine sk_ 7 19 HT_.out (ba_ 17 255) ?_;refine sk_ 8 20 HT_.out (ba_ 17 511) ?_;refine sk_ 9 21 HT_.out (ba_ 17 1023) ?_;refine sk_ 10 22 HT_.out (ba_ 17 2047) ?_;refine sk_ 11 23 HT_.out (ba_ 17 4095) ?_;refine sk_ 12 24 HT_.out (ba_ 17 8191) ?_;refine sk_ 13 25 HT_.out (ba_ 17 16383) ?_;refine sk_ 14 26 HT_.out (ba_ 17 32767) ?_;refine pu_ 15 27 HT_.out (ba_ 17 65535) ?_;refine pu_ 16 28 HT_.out (ba_ 17 131071) ?_;refine A9d (A3i HT_.out kr_) ?_
      try go_wp2
      go_roundg (l0.length-(x+1)).toNat
      case measure=>have:=HA.out;have:=C3.out;omega
      case rel=>
       have h1:=HA.out;have h2:=C3.out;refine ⟨wrap64 (x+1),(rs_),⟨?_⟩,⟨bg_ GE.out⟩⟩
       have hw:wrap64 (x+1)=x+1:=by
        have:=HL.out;unfold wrap64
        omega
       rw [hw]
       exact ⟨by omega,by omega,rfl,NX.out⟩
   ·
    have c3b0:decide (x<(l0.length:Int))=false:=decide_eq_false c3
    have hq:q0=true:=by
     have h1:=HA.out;have e1:(l0.length-x).toNat=0:=by omega
     have h2:=h1.2.2.2;rw [e1] at h2;exact h2.symm
    have HQ2:B0 (r=if (l0.length:Int)>120 then false else !(l0.any (A9.over l0))):=⟨by
     have h1:=HQ.out;rw [hq,if_pos rfl] at h1;exact h1⟩
    clear HQ hq c3;have hcb:=(HB.out.cell (World.block_lt_of_cell? w1 _ HX.out)).trans HX.out
    by_cases c4:(l0.length:Int)>120
    ·
     have c4b0:decide (120<(l0.length:Int))=true:=decide_eq_true c4;have c4b1:decide (120<l0.length)=true:=decide_eq_true (by omega)
     obtain rfl:r=false:=by
      have h1:=HQ2.out;rw [if_pos c4] at h1;exact h1
     clear c4 HQ2;go_wp2;go_ret;exact ⟨rs_,D0 HW.out (bb_)⟩
    ·
     have c4b0:decide (120<(l0.length:Int))=false:=decide_eq_false c4;have c4b1:decide (120<l0.length)=false:=decide_eq_false (by omega)
     obtain rfl:r = !(l0.any (A9.over l0)):=by
      have h1:=HQ2.out;rw [if_neg c4] at h1;exact h1
     clear c4 HQ2;go_wp2_with (first | (go_at_call 134;refine (ContainsFunc_st110.calls A0 c0 l0 135 #[.pointer (some ⟨w.heap.size,0,none⟩)] (A9.over l0) _ (Kd.C_below HR1.out HB.out) HC0.out (A9.pred ((HB.out.cell (World.block_lt_of_cell? w1 _ HX.out)).trans HX.out) (Kd.C_below HR1.out HB.out) HC0.out HL.out)).mono ?_;rintro e w9 ⟨rfl,hb⟩;replace HB:=B0.mk (D0 HB.out hb);clear hb))
     go_ret;exact ⟨rs_,D0 HW.out (bb_)⟩
 ·
  rw [if_neg hl] at h;cases h
theorem IndexFunc_st60.calls (A0:Option Addr) (c0:Nat) (l0:List (S60)) (fc:FuncId) (caps:Array Value) (p:S60→Bool) (w:World) (hr0:Kd.C k60 w A0 l0.length l0) (hc0:l0.length≤c0) (hp:X0.FnB Tryz.prog fc caps w (fun x=>.agg #[.int .i64 x.f0,.int .i64 x.f1,.int .i64 x.f2,.int .i64 x.f3,.int .i64 x.f4,.int .i64 x.f5,.int .i64 x.f6,.int .i64 x.f7]) p) :
 Calls Tryz.prog 142 #[.slice A0 l0.length c0,.func (.func fc) #[] caps] w fun e w'=>e = .returned (.int .i64 (X0.idx p l0))∧Below w.heap.size w w':=by
 obtain ⟨fn,hf,hn,hb,hcall⟩:=hp;have HR0:=B0.mk hr0;have HC0:=B0.mk hc0;have HF:=B0.mk hf;have HN:=B0.mk hn;have HBo:=B0.mk hb;have HP:=B0.mk hcall;have HM:=B0.mk (Kd.C_max hr0);clear hr0 hc0 hf hn hb hcall;have HB:=B0.mk (Below.refl w.heap.size w);have hu60:=Tryz.underlying60;go_enter Tryz.func142,Tryz.ntmps142;go_wp2;go_loopg [8] l0.length (fun kq v8 w'=>∃ (x:Int),v8 = .int .i64 x∧B0 (0≤x∧x≤l0.length∧kq=(l0.length-x).toNat∧∀ j:Nat,j<x.toNat→p (l0.getD j z60)=false)∧B0 (Below w.heap.size w w'))
 case atStart=>exact ⟨0,rfl,⟨Int.le_refl _,by omega,by omega,fun j hj=>by omega⟩,⟨HB.out⟩⟩
 case round=>
  obtain ⟨x,rfl,HA,HB⟩:=hrel
  by_cases c2:x<(l0.length:Int)
  ·
   have p1:0≤x:=HA.out.1;obtain ⟨ad,e,hx_0,hx_1,hx_2,hx_3,hx_4,hx_5,hx_6,hx_7⟩:=D2d HR0.out x p1 c2;cases e;replace hx_0:=cl_ HB.out hx_0;replace hx_1:=cl_ HB.out hx_1;replace hx_2:=cl_ HB.out hx_2;replace hx_3:=cl_ HB.out hx_3;replace hx_4:=cl_ HB.out hx_4;replace hx_5:=cl_ HB.out hx_5;replace hx_6:=cl_ HB.out hx_6;replace hx_7:=cl_ HB.out hx_7;have c2b0:decide (x<(l0.length:Int))=true:=decide_eq_true c2;have C2:=B0.mk c2;replace p1:=eq_true p1;have q1:=eq_true c2;clear c2
   cases hpx:p (B7 l0 x) with
   | true=>
    have HX:=B0.mk hpx;clear hpx;go_wp2_with (first | ((with_reducible refine P7 (N:=16) rfl ?_);refine X0.goesV_ (some 16) rfl rfl caps HF.out HN.out HBo.out #[.agg #[.int .i64 (B7 l0 x).f0,.int .i64 (B7 l0 x).f1,.int .i64 (B7 l0 x).f2,.int .i64 (B7 l0 x).f3,.int .i64 (B7 l0 x).f4,.int .i64 (B7 l0 x).f5,.int .i64 (B7 l0 x).f6,.int .i64 (B7 l0 x).f7]] rfl rfl (by (try simp only [List.map_toArray,List.map_cons,List.map_nil]);first | done | rfl) ?_;refine (HP.out (B7 l0 x) _ HB.out).mono ?_;rintro e w6 ⟨rfl,hb6⟩;refine ⟨_,rfl,?_⟩;rw [HX.out];replace HB:=B0.mk (D0 HB.out hb6);clear hb6))
    go_ret
    exact ⟨by
     have:=HA.out;have h2:=C2.out;have e1:B7 l0 x=l0.getD x.toNat z60:=rfl;have h3:=HX.out;rw [e1] at h3;rw [X0.idx_found p z60 l0 x.toNat (by omega) this.2.2.2 h3,Int.toNat_of_nonneg this.1]
     rfl,HB.out⟩
   | false=>
    have HX:=B0.mk hpx;clear hpx;go_wp2_with (first | ((with_reducible refine P7 (N:=16) rfl ?_);refine X0.goesV_ (some 16) rfl rfl caps HF.out HN.out HBo.out #[.agg #[.int .i64 (B7 l0 x).f0,.int .i64 (B7 l0 x).f1,.int .i64 (B7 l0 x).f2,.int .i64 (B7 l0 x).f3,.int .i64 (B7 l0 x).f4,.int .i64 (B7 l0 x).f5,.int .i64 (B7 l0 x).f6,.int .i64 (B7 l0 x).f7]] rfl rfl (by (try simp only [List.map_toArray,List.map_cons,List.map_nil]);first | done | rfl) ?_;refine (HP.out (B7 l0 x) _ HB.out).mono ?_;rintro e w6 ⟨rfl,hb6⟩;refine ⟨_,rfl,?_⟩;rw [HX.out];replace HB:=B0.mk (D0 HB.out hb6);clear hb6))
    go_roundg (l0.length-(x+1)).toNat
    case measure=>have:=HA.out;have:=C2.out;omega
    case rel=>
     have h1:=HA.out;have h2:=C2.out;have h4:=HM.out;refine ⟨wrap64 (x+1),(rs_),⟨?_⟩,⟨HB.out⟩⟩
     have hw:wrap64 (x+1)=x+1:=by unfold wrap64;omega
     rw [hw]
     refine ⟨by omega,by omega,rfl,fun j hj=>?_⟩
     by_cases hj2:j<x.toNat
     ·
      exact h1.2.2.2 j hj2
     ·
      obtain rfl:j=x.toNat:=by omega
      exact HX.out
  ·
   have c2b0:decide (x<(l0.length:Int))=false:=decide_eq_false c2;have C2:=B0.mk c2;clear c2;go_wp2;go_ret
   exact ⟨by
    have:=HA.out;have h2:=C2.out;rw [X0.idx_none p z60 l0 fun j hj=>this.2.2.2 j (by omega)]
    rfl,HB.out⟩
theorem ContainsFunc_st60.calls (A0:Option Addr) (c0:Nat) (l0:List (S60)) (fc:FuncId) (caps:Array Value) (p:S60→Bool) (w:World) (hr0:Kd.C k60 w A0 l0.length l0) (hc0:l0.length≤c0) (hp:X0.FnB Tryz.prog fc caps w (fun x=>.agg #[.int .i64 x.f0,.int .i64 x.f1,.int .i64 x.f2,.int .i64 x.f3,.int .i64 x.f4,.int .i64 x.f5,.int .i64 x.f6,.int .i64 x.f7]) p) :
 Calls Tryz.prog 140 #[.slice A0 l0.length c0,.func (.func fc) #[] caps] w fun e w'=>e = .returned (.bool (l0.any p))∧Below w.heap.size w w':=by
 have HI:=B0.mk (IndexFunc_st60.calls A0 c0 l0 fc caps p w hr0 hc0 hp);clear hr0 hc0 hp;go_enter Tryz.func140,Tryz.ntmps140;go_wp2_with (first | (go_at_call 142;refine HI.out.mono ?_;rintro e w6 ⟨rfl,hb6⟩;have HB:=B0.mk hb6;clear hb6))
 go_ret
 exact ⟨by
  rw [← X0.idx_any p l0]
  rfl,HB.out⟩
theorem B9.ak_go (l:List (S80)) (a:Int) (hl:l.length<1048577):∀ (n i:Nat),l.length-i=n→i≤l.length→D3.l0 (n+1) a l (l.length:Int) (i:Int)=some (B9.ak (l.drop i) a)
 | 0,i,hn,hi=>by
  obtain rfl:i=l.length:=by omega
  rw [D3.l0,if_neg (by omega),List.drop_length]
  rfl
 | n+1,i,hn,hi=>by
  have h1:i<l.length:=by omega
  have hw:wrap64 ((i:Int)+1)=((i+1:Nat):Int):=by
   unfold wrap64
   omega
  have e:M2 l (i:Int)=l[i]:=by
   unfold M2
   rw [Int.toNat_natCast,List.getD_eq_getElem?_getD,List.getElem?_eq_getElem h1]
   rfl
  rw [D3.l0,if_pos (by omega),if_pos (by omega),if_pos (by omega),hw,B9.ak_go l a hl n (i+1) (by omega) (by omega),List.drop_eq_getElem_cons h1,e,B9.ak]
  by_cases h:l[i].f0=a
  ·
   rw [if_pos h,if_pos h]
  ·
   rw [if_neg h,if_neg h]
theorem B9.ak_ (l:List (S80)) (a:Int) (hl:l.length<1048577):D3.f (l.length+1) l a=some (B9.ak l a):=B9.ak_go l a hl l.length 0 (by omega) (by omega)
theorem B9.ik_go (l:List (S84)) (a:Int) (hl:l.length<1048577):∀ (n i:Nat),l.length-i=n→i≤l.length→E8.l0 (n+1) a l (l.length:Int) (i:Int)=some (B9.ik (l.drop i) a)
 | 0,i,hn,hi=>by
  obtain rfl:i=l.length:=by omega
  rw [E8.l0,if_neg (by omega),List.drop_length]
  rfl
 | n+1,i,hn,hi=>by
  have h1:i<l.length:=by omega
  have hw:wrap64 ((i:Int)+1)=((i+1:Nat):Int):=by
   unfold wrap64
   omega
  have e:M5 l (i:Int)=l[i]:=by
   unfold M5
   rw [Int.toNat_natCast,List.getD_eq_getElem?_getD,List.getElem?_eq_getElem h1]
   rfl
  rw [E8.l0,if_pos (by omega),if_pos (by omega),if_pos (by omega),hw,B9.ik_go l a hl n (i+1) (by omega) (by omega),List.drop_eq_getElem_cons h1,e,B9.ik]
  by_cases h:l[i].f0=a
  ·
   rw [if_pos h,if_pos h]
  ·
   rw [if_neg h,if_neg h]
theorem B9.ik_ (l:List (S84)) (a:Int) (hl:l.length<1048577):E8.f (l.length+1) l a=some (B9.ik l a):=B9.ik_go l a hl l.length 0 (by omega) (by omega)
theorem B9.clo (B:Nat) (A0:Option Addr) (c0:Nat) (l0:List (S80)) (A1:Option Addr) (c1:Nat) (l1:List (S84)) (x:S60) (W:World) (h0:W.cell? ⟨B,0,none⟩=some (.slice A0 l0.length c0)) (h1:W.cell? ⟨B,1,none⟩=some (.slice A1 l1.length c1)) (hC0:Kd.C k80 W A0 l0.length l0) (hC1:Kd.C k84 W A1 l1.length l1) (hc0:l0.length≤c0) (hc1:l1.length≤c1) (hl0:l0.length<1048577) (hl1:l1.length<1048577) :
 Calls Tryz.prog 141 #[.agg #[.int .i64 x.f0,.int .i64 x.f1,.int .i64 x.f2,.int .i64 x.f3,.int .i64 x.f4,.int .i64 x.f5,.int .i64 x.f6,.int .i64 x.f7],.pointer (some ⟨B,0,none⟩)] W fun e W'=>e = .returned (.bool (B9.bad l0 l1 x))∧Below W.heap.size W W':=by
 have HB:=B0.mk (Below.refl W.heap.size W);have G0:=B0.mk h0;have G1:=B0.mk h1;have HO:B0 (B9.bad l0 l1 x=((B9.ak l0 x.f1 != 1)||(B9.ak l0 x.f2 != 1)||(B9.ik l1 x.f3 != 2)||(B9.ik l1 x.f5 != 1))):=⟨rfl⟩;have HK1:=B0.mk (show ∀ W2,Below W.heap.size W W2→Calls Tryz.prog 108 #[.slice A0 l0.length c0,.int .i64 x.f1] W2 fun e W'=>e = .returned (.int .i64 (B9.ak l0 x.f1))∧Below W2.heap.size W2 W' from fun W2 hW2=>D3.calls _ A0 c0 l0 x.f1 _ W2 (Kd.C_below hC0 hW2) hc0 (B9.ak_ l0 x.f1 hl0));have HK2:=B0.mk (show ∀ W2,Below W.heap.size W W2→Calls Tryz.prog 108 #[.slice A0 l0.length c0,.int .i64 x.f2] W2 fun e W'=>e = .returned (.int .i64 (B9.ak l0 x.f2))∧Below W2.heap.size W2 W' from fun W2 hW2=>D3.calls _ A0 c0 l0 x.f2 _ W2 (Kd.C_below hC0 hW2) hc0 (B9.ak_ l0 x.f2 hl0));have HK3:=B0.mk (show ∀ W2,Below W.heap.size W W2→Calls Tryz.prog 110 #[.slice A1 l1.length c1,.int .i64 x.f3] W2 fun e W'=>e = .returned (.int .i64 (B9.ik l1 x.f3))∧Below W2.heap.size W2 W' from fun W2 hW2=>E8.calls _ A1 c1 l1 x.f3 _ W2 (Kd.C_below hC1 hW2) hc1 (B9.ik_ l1 x.f3 hl1))
 have HK4:=B0.mk (show ∀ W2,Below W.heap.size W W2→Calls Tryz.prog 110 #[.slice A1 l1.length c1,.int .i64 x.f5] W2 fun e W'=>e = .returned (.int .i64 (B9.ik l1 x.f5))∧Below W2.heap.size W2 W' from fun W2 hW2=>E8.calls _ A1 c1 l1 x.f5 _ W2 (Kd.C_below hC1 hW2) hc1 (B9.ik_ l1 x.f5 hl1));generalize B9.bad l0 l1 x=o at HO ⊢
 generalize B9.ak l0 x.f1=k1 at HO HK1
 generalize B9.ak l0 x.f2=k2 at HO HK2
 generalize B9.ik l1 x.f3=k3 at HO HK3
 generalize B9.ik l1 x.f5=k4 at HO HK4
 clear h0 h1 hC0 hC1 hc0 hc1 hl0 hl1
 cases e1:(k1 != 1) with
 | true=>
  obtain rfl:o=true:=by rw [HO.out];simp [e1]
  clear HO;go_enter Tryz.func141,Tryz.ntmps141
  go_wp2_with (first | ((with_reducible refine P7 (N:=2) rfl ?_);refine be_ 2 (cs:=#[.int .i64 x.f0,.int .i64 x.f1,.int .i64 x.f2,.int .i64 x.f3,.int .i64 x.f4,.int .i64 x.f5,.int .i64 x.f6,.int .i64 x.f7]) (t:=60) ?_;intro gb hg w5 hbox hb;have n0_:=B0.mk (D0 HB.out hb);clear HB;have HB:=n0_;have BK:=B0.mk hbox;clear n0_ hb hbox hg;have hc1_w5:w5.cell? ⟨gb,1,none⟩=some (.int .i64 x.f1):=(C4 BK.out 1).trans rfl;have hc2_w5:w5.cell? ⟨gb,2,none⟩=some (.int .i64 x.f2):=(C4 BK.out 2).trans rfl;have hc3_w5:w5.cell? ⟨gb,3,none⟩=some (.int .i64 x.f3):=(C4 BK.out 3).trans rfl;have hc5_w5:w5.cell? ⟨gb,5,none⟩=some (.int .i64 x.f5):=(C4 BK.out 5).trans rfl;have g0_w5:=(HB.out.cell (World.block_lt_of_cell? W _ G0.out)).trans G0.out;have g1_w5:=(HB.out.cell (World.block_lt_of_cell? W _ G1.out)).trans G1.out) | (go_at_call 108;(with_reducible refine (HK1.out _ HB.out).mono ?_);rintro e w6 ⟨rfl,hb⟩;have n0_:=B0.mk (D0 HB.out hb);have n1_:=B0.mk (T3 BK.out hb);clear HB BK;have HB:=n0_;have BK:=n1_;clear n0_ n1_ hb;have hc1_w6:w6.cell? ⟨gb,1,none⟩=some (.int .i64 x.f1):=(C4 BK.out 1).trans rfl;have hc2_w6:w6.cell? ⟨gb,2,none⟩=some (.int .i64 x.f2):=(C4 BK.out 2).trans rfl;have hc3_w6:w6.cell? ⟨gb,3,none⟩=some (.int .i64 x.f3):=(C4 BK.out 3).trans rfl;have hc5_w6:w6.cell? ⟨gb,5,none⟩=some (.int .i64 x.f5):=(C4 BK.out 5).trans rfl;have g0_w6:=(HB.out.cell (World.block_lt_of_cell? W _ G0.out)).trans G0.out;have g1_w6:=(HB.out.cell (World.block_lt_of_cell? W _ G1.out)).trans G1.out))
  go_ret;exact ⟨rs_,HB.out⟩
 | false=>
  cases e2:(k2 != 1) with
  | true=>
   obtain rfl:o=true:=by rw [HO.out];simp [e1,e2]
   clear HO;go_enter Tryz.func141,Tryz.ntmps141
   go_wp2_with (first | ((with_reducible refine P7 (N:=2) rfl ?_);refine be_ 2 (cs:=#[.int .i64 x.f0,.int .i64 x.f1,.int .i64 x.f2,.int .i64 x.f3,.int .i64 x.f4,.int .i64 x.f5,.int .i64 x.f6,.int .i64 x.f7]) (t:=60) ?_;intro gb hg w5 hbox hb;have n0_:=B0.mk (D0 HB.out hb);clear HB;have HB:=n0_;have BK:=B0.mk hbox;clear n0_ hb hbox hg;have hc1_w5:w5.cell? ⟨gb,1,none⟩=some (.int .i64 x.f1):=(C4 BK.out 1).trans rfl;have hc2_w5:w5.cell? ⟨gb,2,none⟩=some (.int .i64 x.f2):=(C4 BK.out 2).trans rfl;have hc3_w5:w5.cell? ⟨gb,3,none⟩=some (.int .i64 x.f3):=(C4 BK.out 3).trans rfl;have hc5_w5:w5.cell? ⟨gb,5,none⟩=some (.int .i64 x.f5):=(C4 BK.out 5).trans rfl;have g0_w5:=(HB.out.cell (World.block_lt_of_cell? W _ G0.out)).trans G0.out;have g1_w5:=(HB.out.cell (World.block_lt_of_cell? W _ G1.out)).trans G1.out) | (go_at_call 108;(with_reducible refine (HK1.out _ HB.out).mono ?_);rintro e w6 ⟨rfl,hb⟩;have n0_:=B0.mk (D0 HB.out hb);have n1_:=B0.mk (T3 BK.out hb);clear HB BK;have HB:=n0_;have BK:=n1_;clear n0_ n1_ hb;have hc1_w6:w6.cell? ⟨gb,1,none⟩=some (.int .i64 x.f1):=(C4 BK.out 1).trans rfl;have hc2_w6:w6.cell? ⟨gb,2,none⟩=some (.int .i64 x.f2):=(C4 BK.out 2).trans rfl;have hc3_w6:w6.cell? ⟨gb,3,none⟩=some (.int .i64 x.f3):=(C4 BK.out 3).trans rfl;have hc5_w6:w6.cell? ⟨gb,5,none⟩=some (.int .i64 x.f5):=(C4 BK.out 5).trans rfl;have g0_w6:=(HB.out.cell (World.block_lt_of_cell? W _ G0.out)).trans G0.out;have g1_w6:=(HB.out.cell (World.block_lt_of_cell? W _ G1.out)).trans G1.out) | (go_at_call 108;(with_reducible refine (HK2.out _ HB.out).mono ?_);rintro e w7 ⟨rfl,hb⟩;have n0_:=B0.mk (D0 HB.out hb);have n1_:=B0.mk (T3 BK.out hb);clear HB BK;have HB:=n0_;have BK:=n1_;clear n0_ n1_ hb;have hc1_w7:w7.cell? ⟨gb,1,none⟩=some (.int .i64 x.f1):=(C4 BK.out 1).trans rfl;have hc2_w7:w7.cell? ⟨gb,2,none⟩=some (.int .i64 x.f2):=(C4 BK.out 2).trans rfl;have hc3_w7:w7.cell? ⟨gb,3,none⟩=some (.int .i64 x.f3):=(C4 BK.out 3).trans rfl;have hc5_w7:w7.cell? ⟨gb,5,none⟩=some (.int .i64 x.f5):=(C4 BK.out 5).trans rfl;have g0_w7:=(HB.out.cell (World.block_lt_of_cell? W _ G0.out)).trans G0.out;have g1_w7:=(HB.out.cell (World.block_lt_of_cell? W _ G1.out)).trans G1.out))
   go_ret;exact ⟨rs_,HB.out⟩
  | false=>
   cases e3:(k3 != 2) with
   | true=>
    obtain rfl:o=true:=by rw [HO.out];simp [e1,e2,e3]
    clear HO;go_enter Tryz.func141,Tryz.ntmps141
    go_wp2_with (first | ((with_reducible refine P7 (N:=2) rfl ?_);refine be_ 2 (cs:=#[.int .i64 x.f0,.int .i64 x.f1,.int .i64 x.f2,.int .i64 x.f3,.int .i64 x.f4,.int .i64 x.f5,.int .i64 x.f6,.int .i64 x.f7]) (t:=60) ?_;intro gb hg w5 hbox hb;have n0_:=B0.mk (D0 HB.out hb);clear HB;have HB:=n0_;have BK:=B0.mk hbox;clear n0_ hb hbox hg;have hc1_w5:w5.cell? ⟨gb,1,none⟩=some (.int .i64 x.f1):=(C4 BK.out 1).trans rfl;have hc2_w5:w5.cell? ⟨gb,2,none⟩=some (.int .i64 x.f2):=(C4 BK.out 2).trans rfl;have hc3_w5:w5.cell? ⟨gb,3,none⟩=some (.int .i64 x.f3):=(C4 BK.out 3).trans rfl;have hc5_w5:w5.cell? ⟨gb,5,none⟩=some (.int .i64 x.f5):=(C4 BK.out 5).trans rfl;have g0_w5:=(HB.out.cell (World.block_lt_of_cell? W _ G0.out)).trans G0.out;have g1_w5:=(HB.out.cell (World.block_lt_of_cell? W _ G1.out)).trans G1.out) | (go_at_call 108;(with_reducible refine (HK1.out _ HB.out).mono ?_);rintro e w6 ⟨rfl,hb⟩;have n0_:=B0.mk (D0 HB.out hb);have n1_:=B0.mk (T3 BK.out hb);clear HB BK;have HB:=n0_;have BK:=n1_;clear n0_ n1_ hb;have hc1_w6:w6.cell? ⟨gb,1,none⟩=some (.int .i64 x.f1):=(C4 BK.out 1).trans rfl;have hc2_w6:w6.cell? ⟨gb,2,none⟩=some (.int .i64 x.f2):=(C4 BK.out 2).trans rfl;have hc3_w6:w6.cell? ⟨gb,3,none⟩=some (.int .i64 x.f3):=(C4 BK.out 3).trans rfl;have hc5_w6:w6.cell? ⟨gb,5,none⟩=some (.int .i64 x.f5):=(C4 BK.out 5).trans rfl;have g0_w6:=(HB.out.cell (World.block_lt_of_cell? W _ G0.out)).trans G0.out;have g1_w6:=(HB.out.cell (World.block_lt_of_cell? W _ G1.out)).trans G1.out) | (go_at_call 108;(with_reducible refine (HK2.out _ HB.out).mono ?_);rintro e w7 ⟨rfl,hb⟩;have n0_:=B0.mk (D0 HB.out hb);have n1_:=B0.mk (T3 BK.out hb);clear HB BK;have HB:=n0_;have BK:=n1_;clear n0_ n1_ hb;have hc1_w7:w7.cell? ⟨gb,1,none⟩=some (.int .i64 x.f1):=(C4 BK.out 1).trans rfl;have hc2_w7:w7.cell? ⟨gb,2,none⟩=some (.int .i64 x.f2):=(C4 BK.out 2).trans rfl;have hc3_w7:w7.cell? ⟨gb,3,none⟩=some (.int .i64 x.f3):=(C4 BK.out 3).trans rfl;have hc5_w7:w7.cell? ⟨gb,5,none⟩=some (.int .i64 x.f5):=(C4 BK.out 5).trans rfl;have g0_w7:=(HB.out.cell (World.block_lt_of_cell? W _ G0.out)).trans G0.out;have g1_w7:=(HB.out.cell (World.block_lt_of_cell? W _ G1.out)).trans G1.out) | (go_at_call 110;(with_reducible refine (HK3.out _ HB.out).mono ?_);rintro e w8 ⟨rfl,hb⟩;have n0_:=B0.mk (D0 HB.out hb);have n1_:=B0.mk (T3 BK.out hb);clear HB BK;have HB:=n0_;have BK:=n1_;clear n0_ n1_ hb;have hc1_w8:w8.cell? ⟨gb,1,none⟩=some (.int .i64 x.f1):=(C4 BK.out 1).trans rfl;have hc2_w8:w8.cell? ⟨gb,2,none⟩=some (.int .i64 x.f2):=(C4 BK.out 2).trans rfl;have hc3_w8:w8.cell? ⟨gb,3,none⟩=some (.int .i64 x.f3):=(C4 BK.out 3).trans rfl;have hc5_w8:w8.cell? ⟨gb,5,none⟩=some (.int .i64 x.f5):=(C4 BK.out 5).trans rfl;have g0_w8:=(HB.out.cell (World.block_lt_of_cell? W _ G0.out)).trans G0.out;have g1_w8:=(HB.out.cell (World.block_lt_of_cell? W _ G1.out)).trans G1.out))
    go_ret;exact ⟨rs_,HB.out⟩
   | false=>
    cases e4:(k4 != 1) with
    | true=>
     obtain rfl:o=true:=by rw [HO.out];simp [e1,e2,e3,e4]
     clear HO;go_enter Tryz.func141,Tryz.ntmps141
     go_wp2_with (first | ((with_reducible refine P7 (N:=2) rfl ?_);refine be_ 2 (cs:=#[.int .i64 x.f0,.int .i64 x.f1,.int .i64 x.f2,.int .i64 x.f3,.int .i64 x.f4,.int .i64 x.f5,.int .i64 x.f6,.int .i64 x.f7]) (t:=60) ?_;intro gb hg w5 hbox hb;have n0_:=B0.mk (D0 HB.out hb);clear HB;have HB:=n0_;have BK:=B0.mk hbox;clear n0_ hb hbox hg;have hc1_w5:w5.cell? ⟨gb,1,none⟩=some (.int .i64 x.f1):=(C4 BK.out 1).trans rfl;have hc2_w5:w5.cell? ⟨gb,2,none⟩=some (.int .i64 x.f2):=(C4 BK.out 2).trans rfl;have hc3_w5:w5.cell? ⟨gb,3,none⟩=some (.int .i64 x.f3):=(C4 BK.out 3).trans rfl;have hc5_w5:w5.cell? ⟨gb,5,none⟩=some (.int .i64 x.f5):=(C4 BK.out 5).trans rfl;have g0_w5:=(HB.out.cell (World.block_lt_of_cell? W _ G0.out)).trans G0.out;have g1_w5:=(HB.out.cell (World.block_lt_of_cell? W _ G1.out)).trans G1.out) | (go_at_call 108;(with_reducible refine (HK1.out _ HB.out).mono ?_);rintro e w6 ⟨rfl,hb⟩;have n0_:=B0.mk (D0 HB.out hb);have n1_:=B0.mk (T3 BK.out hb);clear HB BK;have HB:=n0_;have BK:=n1_;clear n0_ n1_ hb;have hc1_w6:w6.cell? ⟨gb,1,none⟩=some (.int .i64 x.f1):=(C4 BK.out 1).trans rfl;have hc2_w6:w6.cell? ⟨gb,2,none⟩=some (.int .i64 x.f2):=(C4 BK.out 2).trans rfl;have hc3_w6:w6.cell? ⟨gb,3,none⟩=some (.int .i64 x.f3):=(C4 BK.out 3).trans rfl;have hc5_w6:w6.cell? ⟨gb,5,none⟩=some (.int .i64 x.f5):=(C4 BK.out 5).trans rfl;have g0_w6:=(HB.out.cell (World.block_lt_of_cell? W _ G0.out)).trans G0.out;have g1_w6:=(HB.out.cell (World.block_lt_of_cell? W _ G1.out)).trans G1.out) | (go_at_call 108;(with_reducible refine (HK2.out _ HB.out).mono ?_);rintro e w7 ⟨rfl,hb⟩;have n0_:=B0.mk (D0 HB.out hb);have n1_:=B0.mk (T3 BK.out hb);clear HB BK;have HB:=n0_;have BK:=n1_;clear n0_ n1_ hb;have hc1_w7:w7.cell? ⟨gb,1,none⟩=some (.int .i64 x.f1):=(C4 BK.out 1).trans rfl;have hc2_w7:w7.cell? ⟨gb,2,none⟩=some (.int .i64 x.f2):=(C4 BK.out 2).trans rfl;have hc3_w7:w7.cell? ⟨gb,3,none⟩=some (.int .i64 x.f3):=(C4 BK.out 3).trans rfl;have hc5_w7:w7.cell? ⟨gb,5,none⟩=some (.int .i64 x.f5):=(C4 BK.out 5).trans rfl;have g0_w7:=(HB.out.cell (World.block_lt_of_cell? W _ G0.out)).trans G0.out;have g1_w7:=(HB.out.cell (World.block_lt_of_cell? W _ G1.out)).trans G1.out) | (go_at_call 110;(with_reducible refine (HK3.out _ HB.out).mono ?_);rintro e w8 ⟨rfl,hb⟩;have n0_:=B0.mk (D0 HB.out hb);have n1_:=B0.mk (T3 BK.out hb);clear HB BK;have HB:=n0_;have BK:=n1_;clear n0_ n1_ hb;have hc1_w8:w8.cell? ⟨gb,1,none⟩=some (.int .i64 x.f1):=(C4 BK.out 1).trans rfl;have hc2_w8:w8.cell? ⟨gb,2,none⟩=some (.int .i64 x.f2):=(C4 BK.out 2).trans rfl;have hc3_w8:w8.cell? ⟨gb,3,none⟩=some (.int .i64 x.f3):=(C4 BK.out 3).trans rfl;have hc5_w8:w8.cell? ⟨gb,5,none⟩=some (.int .i64 x.f5):=(C4 BK.out 5).trans rfl;have g0_w8:=(HB.out.cell (World.block_lt_of_cell? W _ G0.out)).trans G0.out;have g1_w8:=(HB.out.cell (World.block_lt_of_cell? W _ G1.out)).trans G1.out) | (go_at_call 110;(with_reducible refine (HK4.out _ HB.out).mono ?_);rintro e w9 ⟨rfl,hb⟩;have n0_:=B0.mk (D0 HB.out hb);have n1_:=B0.mk (T3 BK.out hb);clear HB BK;have HB:=n0_;have BK:=n1_;clear n0_ n1_ hb;have hc1_w9:w9.cell? ⟨gb,1,none⟩=some (.int .i64 x.f1):=(C4 BK.out 1).trans rfl;have hc2_w9:w9.cell? ⟨gb,2,none⟩=some (.int .i64 x.f2):=(C4 BK.out 2).trans rfl;have hc3_w9:w9.cell? ⟨gb,3,none⟩=some (.int .i64 x.f3):=(C4 BK.out 3).trans rfl;have hc5_w9:w9.cell? ⟨gb,5,none⟩=some (.int .i64 x.f5):=(C4 BK.out 5).trans rfl;have g0_w9:=(HB.out.cell (World.block_lt_of_cell? W _ G0.out)).trans G0.out;have g1_w9:=(HB.out.cell (World.block_lt_of_cell? W _ G1.out)).trans G1.out))
     go_ret;exact ⟨rs_,HB.out⟩
    | false=>
     obtain rfl:o=false:=by rw [HO.out];simp [e1,e2,e3,e4]
     clear HO;go_enter Tryz.func141,Tryz.ntmps141
     go_wp2_with (first | ((with_reducible refine P7 (N:=2) rfl ?_);refine be_ 2 (cs:=#[.int .i64 x.f0,.int .i64 x.f1,.int .i64 x.f2,.int .i64 x.f3,.int .i64 x.f4,.int .i64 x.f5,.int .i64 x.f6,.int .i64 x.f7]) (t:=60) ?_;intro gb hg w5 hbox hb;have n0_:=B0.mk (D0 HB.out hb);clear HB;have HB:=n0_;have BK:=B0.mk hbox;clear n0_ hb hbox hg;have hc1_w5:w5.cell? ⟨gb,1,none⟩=some (.int .i64 x.f1):=(C4 BK.out 1).trans rfl;have hc2_w5:w5.cell? ⟨gb,2,none⟩=some (.int .i64 x.f2):=(C4 BK.out 2).trans rfl;have hc3_w5:w5.cell? ⟨gb,3,none⟩=some (.int .i64 x.f3):=(C4 BK.out 3).trans rfl;have hc5_w5:w5.cell? ⟨gb,5,none⟩=some (.int .i64 x.f5):=(C4 BK.out 5).trans rfl;have g0_w5:=(HB.out.cell (World.block_lt_of_cell? W _ G0.out)).trans G0.out;have g1_w5:=(HB.out.cell (World.block_lt_of_cell? W _ G1.out)).trans G1.out) | (go_at_call 108;(with_reducible refine (HK1.out _ HB.out).mono ?_);rintro e w6 ⟨rfl,hb⟩;have n0_:=B0.mk (D0 HB.out hb);have n1_:=B0.mk (T3 BK.out hb);clear HB BK;have HB:=n0_;have BK:=n1_;clear n0_ n1_ hb;have hc1_w6:w6.cell? ⟨gb,1,none⟩=some (.int .i64 x.f1):=(C4 BK.out 1).trans rfl;have hc2_w6:w6.cell? ⟨gb,2,none⟩=some (.int .i64 x.f2):=(C4 BK.out 2).trans rfl;have hc3_w6:w6.cell? ⟨gb,3,none⟩=some (.int .i64 x.f3):=(C4 BK.out 3).trans rfl;have hc5_w6:w6.cell? ⟨gb,5,none⟩=some (.int .i64 x.f5):=(C4 BK.out 5).trans rfl;have g0_w6:=(HB.out.cell (World.block_lt_of_cell? W _ G0.out)).trans G0.out;have g1_w6:=(HB.out.cell (World.block_lt_of_cell? W _ G1.out)).trans G1.out) | (go_at_call 108;(with_reducible refine (HK2.out _ HB.out).mono ?_);rintro e w7 ⟨rfl,hb⟩;have n0_:=B0.mk (D0 HB.out hb);have n1_:=B0.mk (T3 BK.out hb);clear HB BK;have HB:=n0_;have BK:=n1_;clear n0_ n1_ hb;have hc1_w7:w7.cell? ⟨gb,1,none⟩=some (.int .i64 x.f1):=(C4 BK.out 1).trans rfl;have hc2_w7:w7.cell? ⟨gb,2,none⟩=some (.int .i64 x.f2):=(C4 BK.out 2).trans rfl;have hc3_w7:w7.cell? ⟨gb,3,none⟩=some (.int .i64 x.f3):=(C4 BK.out 3).trans rfl;have hc5_w7:w7.cell? ⟨gb,5,none⟩=some (.int .i64 x.f5):=(C4 BK.out 5).trans rfl;have g0_w7:=(HB.out.cell (World.block_lt_of_cell? W _ G0.out)).trans G0.out;have g1_w7:=(HB.out.cell (World.block_lt_of_cell? W _ G1.out)).trans G1.out) | (go_at_call 110;(with_reducible refine (HK3.out _ HB.out).mono ?_);rintro e w8 ⟨rfl,hb⟩;have n0_:=B0.mk (D0 HB.out hb);have n1_:=B0.mk (T3 BK.out hb);clear HB BK;have HB:=n0_;have BK:=n1_;clear n0_ n1_ hb;have hc1_w8:w8.cell? ⟨gb,1,none⟩=some (.int .i64 x.f1):=(C4 BK.out 1).trans rfl;have hc2_w8:w8.cell? ⟨gb,2,none⟩=some (.int .i64 x.f2):=(C4 BK.out 2).trans rfl;have hc3_w8:w8.cell? ⟨gb,3,none⟩=some (.int .i64 x.f3):=(C4 BK.out 3).trans rfl;have hc5_w8:w8.cell? ⟨gb,5,none⟩=some (.int .i64 x.f5):=(C4 BK.out 5).trans rfl;have g0_w8:=(HB.out.cell (World.block_lt_of_cell? W _ G0.out)).trans G0.out;have g1_w8:=(HB.out.cell (World.block_lt_of_cell? W _ G1.out)).trans G1.out) | (go_at_call 110;(with_reducible refine (HK4.out _ HB.out).mono ?_);rintro e w9 ⟨rfl,hb⟩;have n0_:=B0.mk (D0 HB.out hb);have n1_:=B0.mk (T3 BK.out hb);clear HB BK;have HB:=n0_;have BK:=n1_;clear n0_ n1_ hb;have hc1_w9:w9.cell? ⟨gb,1,none⟩=some (.int .i64 x.f1):=(C4 BK.out 1).trans rfl;have hc2_w9:w9.cell? ⟨gb,2,none⟩=some (.int .i64 x.f2):=(C4 BK.out 2).trans rfl;have hc3_w9:w9.cell? ⟨gb,3,none⟩=some (.int .i64 x.f3):=(C4 BK.out 3).trans rfl;have hc5_w9:w9.cell? ⟨gb,5,none⟩=some (.int .i64 x.f5):=(C4 BK.out 5).trans rfl;have g0_w9:=(HB.out.cell (World.block_lt_of_cell? W _ G0.out)).trans G0.out;have g1_w9:=(HB.out.cell (World.block_lt_of_cell? W _ G1.out)).trans G1.out))
     go_ret;exact ⟨rs_,HB.out⟩
theorem B9.pred {B:Nat} {A0:Option Addr} {c0:Nat} {l0:List (S80)} {A1:Option Addr} {c1:Nat} {l1:List (S84)} {w:World} (h0:w.cell? ⟨B,0,none⟩=some (.slice A0 l0.length c0)) (h1:w.cell? ⟨B,1,none⟩=some (.slice A1 l1.length c1)) (hC0:Kd.C k80 w A0 l0.length l0) (hC1:Kd.C k84 w A1 l1.length l1) (hc0:l0.length≤c0) (hc1:l1.length≤c1) (hl0:l0.length<1048577) (hl1:l1.length<1048577) :
 X0.FnB Tryz.prog 141 #[.pointer (some ⟨B,0,none⟩)] w (fun x:S60=>.agg #[.int .i64 x.f0,.int .i64 x.f1,.int .i64 x.f2,.int .i64 x.f3,.int .i64 x.f4,.int .i64 x.f5,.int .i64 x.f6,.int .i64 x.f7]) (B9.bad l0 l1):=
 ⟨_,Tryz.func141,by kernel_rfl,rfl,fun x W hW=>B9.clo B A0 c0 l0 A1 c1 l1 x W ((hW.cell (World.block_lt_of_cell? w _ h0)).trans h0) ((hW.cell (World.block_lt_of_cell? w _ h1)).trans h1) (Kd.C_below hC0 hW) (Kd.C_below hC1 hW) hc0 hc1 hl0 hl1⟩
theorem B9.calls (A0_0:Option Addr) (c0_0:Nat) (l0_0:List (S80)) (A0_1:Option Addr) (c0_1:Nat) (l0_1:List (S84)) (A0_2:Option Addr) (c0_2:Nat) (l0_2:List (S106)) (A0_3:Option Addr) (c0_3:Nat) (l0_3:List (S110)) (A0_4:Option Addr) (c0_4:Nat) (l0_4:List (S60)) (a0_5:Int) (r:Bool) (w:World) (hr0_0:Kd.C k80 w A0_0 l0_0.length l0_0) (hc0_0:l0_0.length≤c0_0) (hr0_1:Kd.C k84 w A0_1 l0_1.length l0_1) (hc0_1:l0_1.length≤c0_1) (hr0_2:Kd.C k106 w A0_2 l0_2.length l0_2) (hc0_2:l0_2.length≤c0_2) (hr0_3:Kd.C k110 w A0_3 l0_3.length l0_3) (hc0_3:l0_3.length≤c0_3) (hr0_4:Kd.C k60 w A0_4 l0_4.length l0_4) (hc0_4:l0_4.length≤c0_4) (h:B9.f l0_0 l0_1 l0_2 l0_3 l0_4 a0_5=some r) :
 Calls Tryz.prog 96 #[.agg #[.slice A0_0 l0_0.length c0_0,.slice A0_1 l0_1.length c0_1,.slice A0_2 l0_2.length c0_2,.slice A0_3 l0_3.length c0_3,.slice A0_4 l0_4.length c0_4,.int .i64 a0_5]] w fun e w'=>e = .returned (.bool r)∧Below w.heap.size w w':=by
 unfold B9.f at h
 by_cases hh:l0_0.length<1048577∧l0_1.length<1048577
 ·
  rw [if_pos hh] at h;obtain rfl:=Option.some.inj h;have HB:=B0.mk (Below.refl w.heap.size w);have HR0:=B0.mk hr0_0;have HC0:=B0.mk hc0_0;have HR1:=B0.mk hr0_1;have HC1:=B0.mk hc0_1;have HR4:=B0.mk hr0_4;have HC4:=B0.mk hc0_4;have HL:=B0.mk hh;clear hr0_0 hc0_0 hr0_1 hc0_1 hr0_2 hc0_2 hr0_3 hc0_3 hr0_4 hc0_4 hh h;go_enter Tryz.func96,Tryz.ntmps96
  go_wp2_with (first | ((with_reducible refine P7 (N:=1) rfl ?_);refine be_ 1 (cs:=#[.slice A0_0 l0_0.length c0_0,.slice A0_1 l0_1.length c0_1,.slice A0_2 l0_2.length c0_2,.slice A0_3 l0_3.length c0_3,.slice A0_4 l0_4.length c0_4,.int .i64 a0_5]) (t:=36) ?_;intro gb hg w5 hbox hb;have n0_:=B0.mk (D0 HB.out hb);clear HB;have HB:=n0_;have BK:=B0.mk hbox;clear n0_ hb hbox hg;have hc4_w5:w5.cell? ⟨gb,4,none⟩=some (.slice A0_4 l0_4.length c0_4):=(C4 BK.out 4).trans rfl) | ((with_reducible refine M3 (f:=140) rfl ?_);(try (refine A1p (by rfl) ?_;dsimp only));refine V6 (some 6) rfl rfl Tryz.func140 kr_ rfl #[.slice A0_4 l0_4.length c0_4,.func (.func 141) #[] #[.pointer (some ⟨gb,0,none⟩)]] rfl (by (try simp only [List.map_toArray,List.map_cons,List.map_nil]);first | done | rfl) ?_;(with_reducible refine (ContainsFunc_st60.calls _ _ l0_4 _ #[.pointer (some ⟨gb,0,none⟩)] (B9.bad l0_0 l0_1) _ (Kd.C_below HR4.out HB.out) HC4.out (B9.pred ((C4 BK.out 0).trans rfl) ((C4 BK.out 1).trans rfl) (Kd.C_below HR0.out HB.out) (Kd.C_below HR1.out HB.out) HC0.out HC1.out HL.out.1 HL.out.2)).mono ?_);rintro e w6 ⟨rfl,hb⟩;refine ⟨_,rfl,?_⟩;replace HB:=B0.mk (D0 HB.out hb);clear hb))
  go_ret;exact ⟨rs_,HB.out⟩
 ·
  rw [if_neg hh] at h;cases h
theorem T0.calls (A0:Option Addr) (c0:Nat) (l0:List (S80)) (r:List (S80)) (w:World) (hr0:Kd.C k80 w A0 l0.length l0) (hc0:l0.length≤c0) (h:T0.f l0=some r) :
 Calls Tryz.prog 97 #[.slice A0 l0.length c0] w fun e w'=>∃ v0_:Value,e = .returned (v0_)∧Kd.R k80 80 w' w.heap.size (fun _=>True) v0_ r∧Below w.heap.size w w':=by
 have HR0:=B0.mk hr0;have HC0:=B0.mk hc0;clear hr0 hc0;have HB:=B0.mk (Below.refl w.heap.size w);have H:((some (([]:List (S80)):List (S80))).bind fun y481=>(if y481.length+l0.length<8796093022208 then (some (y481++l0)) else (none)))=some r:=h;clear h;obtain ⟨y481,hy481⟩:∃ y_:List (S80),y_=(([]:List (S80))):=⟨_,rfl⟩;replace H:(if y481.length+l0.length<8796093022208 then (some (y481++l0)) else (none))=some r:=rh_ hy481 H;have Ny481:=B0.mk hy481;clear hy481
 by_cases c2:y481.length+l0.length<8796093022208
 ·
  rw [if_pos c2] at H;have LMc2:=B0.mk c2;clear c2;obtain ⟨y484,hy484⟩:∃ y_:List (S80),y_=(y481++l0):=⟨_,rfl⟩;replace H:(some y484)=some r:=rh_ hy484 H;have Ny484:=B0.mk hy484;clear hy484;obtain rfl:=Option.some.inj H;have q_:∀ (W:World) (a:Option Addr) (n c n' c':Nat),(binOp .eql 30 (.slice a n c) (.slice none n' c')).run Tryz.prog W = .ok (.bool a.isNone) W:=fun W a n c n' c'=>Lib.run_eql_slice_nil W _ _ a n c n' c' Tryz.underlying30
  cases A0 with
  | none=>
   have e0_:l0=[]:=by
    have h_:Q3 _ _ _ _ _ _:=HR0.out;unfold Q3 at h_
    obtain ⟨h1_,_,h2_⟩:=h_;apply List.eq_nil_of_length_eq_zero
    apply Classical.byContradiction
    intro hn_
    obtain ⟨ad_,e_,_⟩:=h2_ (by omega)
    cases e_
   have Ny0_:y484=[]:=by rw [Ny484.out,Ny481.out,e0_];rfl
   subst Ny0_;go_enter Tryz.func97,Tryz.ntmps97;go_wp2;go_ret;exact ⟨_,rs_,Kd.R_nil _ _ _ _ _,HB.out⟩
  | some ad0=>
   go_enter Tryz.func97,Tryz.ntmps97;go_wp2_with (first | ((with_reducible refine P7 (N:=5) rfl ?_);refine Kd.R_lit k80 _ 80 ?hg (N:=5) ?hd (xs:=([]:List (S80))) (inner:=[]) (ok:=fun _=>True) (okp:=fun _=>True) ?hr ?hp (fun _ hk=>hk) trivial (Below.refl _ _) (Nat.le_refl _) (by simp) ?_;(case hd=>rfl);(case hg=>rfl);(case hr=>first | (go_simp;done) | (go_simp;rfl));(case hp=>exact (Reps.none _ _));intro v482 w3 ho4 hb hg_ hnew_;clear hg_ hnew_;(first | rw [← Ny481.out] at ho4 | (simp only [Int.reduceToNat] at ho4;rw [← Ny481.out] at ho4));have n_:=as2_ (Kd.R_lower ho4 (G4 (bb_))) (D0 (bb_) hb);clear HB;obtain ⟨HO483,HB⟩:=n_;clear hb ho4) | ((with_reducible refine P8 (b:=.append) (xs:=#[.tmp 5,.tmp 6]) rfl ?_);at_builtin;refine Kd.R_append_rows k80 (w0:=w) w.heap.size rfl (.tmp 5) (.tmp 6) 30 80 (.agg #[(.int .i64 0),(.int .i64 0)]) 16 rfl Tryz.underlying30 C9s rfl (by decide) (by omega) v482 y481 l0 _ _ _ (fun _=>True) (fun _=>False) rfl rfl ?aO ?aR (fun _ _ h=>h) (fun _ h=>h.elim) ?aF ?aB ?aS ?aL ?_;(case aR=>exact cc_ (Kd.C_below HR0.out HB.out));(case aB=>exact (bb_));(case aF=>exact (fun _ _=>trivial));(case aO=>exact (pe_ HO483.out));(case aS=>exact (G4 (bb_)));(case aL=>have:=LMc2.out;omega);intro v485 w5 ho hb hg hat;rw [← Ny484.out] at ho;have n_:=as2_ (hb) (ho);clear HB HO483;obtain ⟨HB,HO486⟩:=n_;clear ho hb hg hat))
   go_ret;exact ⟨_,er_,pe_ HO486.out,bb_⟩
 ·
  rw [if_neg c2] at H;exact absurd H (by simp)
theorem U7.calls (A0:Option Addr) (c0:Nat) (l0:List (S84)) (r:List (S84)) (w:World) (hr0:Kd.C k84 w A0 l0.length l0) (hc0:l0.length≤c0) (h:U7.f l0=some r) :
 Calls Tryz.prog 98 #[.slice A0 l0.length c0] w fun e w'=>∃ v0_:Value,e = .returned (v0_)∧Kd.R k84 84 w' w.heap.size (fun _=>True) v0_ r∧Below w.heap.size w w':=by
 have HR0:=B0.mk hr0;have HC0:=B0.mk hc0;clear hr0 hc0;have HB:=B0.mk (Below.refl w.heap.size w);have H:((some (([]:List (S84)):List (S84))).bind fun y487=>(if y487.length+l0.length<8796093022208 then (some (y487++l0)) else (none)))=some r:=h;clear h;obtain ⟨y487,hy487⟩:∃ y_:List (S84),y_=(([]:List (S84))):=⟨_,rfl⟩;replace H:(if y487.length+l0.length<8796093022208 then (some (y487++l0)) else (none))=some r:=rh_ hy487 H;have Ny487:=B0.mk hy487;clear hy487
 by_cases c2:y487.length+l0.length<8796093022208
 ·
  rw [if_pos c2] at H;have LMc2:=B0.mk c2;clear c2;obtain ⟨y490,hy490⟩:∃ y_:List (S84),y_=(y487++l0):=⟨_,rfl⟩;replace H:(some y490)=some r:=rh_ hy490 H;have Ny490:=B0.mk hy490;clear hy490;obtain rfl:=Option.some.inj H;have q_:∀ (W:World) (a:Option Addr) (n c n' c':Nat),(binOp .eql 31 (.slice a n c) (.slice none n' c')).run Tryz.prog W = .ok (.bool a.isNone) W:=fun W a n c n' c'=>Lib.run_eql_slice_nil W _ _ a n c n' c' Tryz.underlying31
  cases A0 with
  | none=>
   have e0_:l0=[]:=by
    have h_:Q3 _ _ _ _ _ _:=HR0.out;unfold Q3 at h_
    obtain ⟨h1_,_,h2_⟩:=h_;apply List.eq_nil_of_length_eq_zero
    apply Classical.byContradiction
    intro hn_
    obtain ⟨ad_,e_,_⟩:=h2_ (by omega)
    cases e_
   have Ny0_:y490=[]:=by rw [Ny490.out,Ny487.out,e0_];rfl
   subst Ny0_;go_enter Tryz.func98,Tryz.ntmps98;go_wp2;go_ret;exact ⟨_,rs_,Kd.R_nil _ _ _ _ _,HB.out⟩
  | some ad0=>
   go_enter Tryz.func98,Tryz.ntmps98;go_wp2_with (first | ((with_reducible refine P7 (N:=5) rfl ?_);refine Kd.R_lit k84 _ 84 ?hg (N:=5) ?hd (xs:=([]:List (S84))) (inner:=[]) (ok:=fun _=>True) (okp:=fun _=>True) ?hr ?hp (fun _ hk=>hk) trivial (Below.refl _ _) (Nat.le_refl _) (by simp) ?_;(case hd=>rfl);(case hg=>rfl);(case hr=>first | (go_simp;done) | (go_simp;rfl));(case hp=>exact (Reps.none _ _));intro v488 w3 ho4 hb hg_ hnew_;clear hg_ hnew_;(first | rw [← Ny487.out] at ho4 | (simp only [Int.reduceToNat] at ho4;rw [← Ny487.out] at ho4));have n_:=as2_ (Kd.R_lower ho4 (G4 (bb_))) (D0 (bb_) hb);clear HB;obtain ⟨HO489,HB⟩:=n_;clear hb ho4) | ((with_reducible refine P8 (b:=.append) (xs:=#[.tmp 5,.tmp 6]) rfl ?_);at_builtin;refine Kd.R_append_rows k84 (w0:=w) w.heap.size rfl (.tmp 5) (.tmp 6) 31 84 (.agg #[(.int .i64 0),(.int .i64 0)]) 16 rfl Tryz.underlying31 C9r rfl (by decide) (by omega) v488 y487 l0 _ _ _ (fun _=>True) (fun _=>False) rfl rfl ?aO ?aR (fun _ _ h=>h) (fun _ h=>h.elim) ?aF ?aB ?aS ?aL ?_;(case aR=>exact cc_ (Kd.C_below HR0.out HB.out));(case aB=>exact (bb_));(case aF=>exact (fun _ _=>trivial));(case aO=>exact (pe_ HO489.out));(case aS=>exact (G4 (bb_)));(case aL=>have:=LMc2.out;omega);intro v491 w5 ho hb hg hat;rw [← Ny490.out] at ho;have n_:=as2_ (hb) (ho);clear HB HO489;obtain ⟨HB,HO492⟩:=n_;clear ho hb hg hat))
   go_ret;exact ⟨_,er_,pe_ HO492.out,bb_⟩
 ·
  rw [if_neg c2] at H;exact absurd H (by simp)
theorem O2.calls (A0:Option Addr) (c0:Nat) (l0:List (S106)) (r:List (S106)) (w:World) (hr0:Kd.C k106 w A0 l0.length l0) (hc0:l0.length≤c0) (h:O2.f l0=some r) :
 Calls Tryz.prog 99 #[.slice A0 l0.length c0] w fun e w'=>∃ v0_:Value,e = .returned (v0_)∧Kd.R k106 106 w' w.heap.size (fun _=>True) v0_ r∧Below w.heap.size w w':=by
 have HR0:=B0.mk hr0;have HC0:=B0.mk hc0;clear hr0 hc0;have HB:=B0.mk (Below.refl w.heap.size w);have H:((some (([]:List (S106)):List (S106))).bind fun y493=>(if y493.length+l0.length<5864062014805 then (some (y493++l0)) else (none)))=some r:=h;clear h;obtain ⟨y493,hy493⟩:∃ y_:List (S106),y_=(([]:List (S106))):=⟨_,rfl⟩;replace H:(if y493.length+l0.length<5864062014805 then (some (y493++l0)) else (none))=some r:=rh_ hy493 H;have Ny493:=B0.mk hy493;clear hy493
 by_cases c2:y493.length+l0.length<5864062014805
 ·
  rw [if_pos c2] at H;have LMc2:=B0.mk c2;clear c2;obtain ⟨y496,hy496⟩:∃ y_:List (S106),y_=(y493++l0):=⟨_,rfl⟩;replace H:(some y496)=some r:=rh_ hy496 H;have Ny496:=B0.mk hy496;clear hy496;obtain rfl:=Option.some.inj H;have q_:∀ (W:World) (a:Option Addr) (n c n' c':Nat),(binOp .eql 32 (.slice a n c) (.slice none n' c')).run Tryz.prog W = .ok (.bool a.isNone) W:=fun W a n c n' c'=>Lib.run_eql_slice_nil W _ _ a n c n' c' Tryz.underlying32
  cases A0 with
  | none=>
   have e0_:l0=[]:=by
    have h_:Q3 _ _ _ _ _ _:=HR0.out;unfold Q3 at h_
    obtain ⟨h1_,_,h2_⟩:=h_;apply List.eq_nil_of_length_eq_zero
    apply Classical.byContradiction
    intro hn_
    obtain ⟨ad_,e_,_⟩:=h2_ (by omega)
    cases e_
   have Ny0_:y496=[]:=by rw [Ny496.out,Ny493.out,e0_];rfl
   subst Ny0_;go_enter Tryz.func99,Tryz.ntmps99;go_wp2;go_ret;exact ⟨_,rs_,Kd.R_nil _ _ _ _ _,HB.out⟩
  | some ad0=>
   go_enter Tryz.func99,Tryz.ntmps99
   go_wp2_with (first | ((with_reducible refine P7 (N:=5) rfl ?_);refine Kd.R_lit k106 _ 106 ?hg (N:=5) ?hd (xs:=([]:List (S106))) (inner:=[]) (ok:=fun _=>True) (okp:=fun _=>True) ?hr ?hp (fun _ hk=>hk) trivial (Below.refl _ _) (Nat.le_refl _) (by simp) ?_;(case hd=>rfl);(case hg=>rfl);(case hr=>first | (go_simp;done) | (go_simp;rfl));(case hp=>exact (Reps.none _ _));intro v494 w3 ho4 hb hg_ hnew_;clear hg_ hnew_;(first | rw [← Ny493.out] at ho4 | (simp only [Int.reduceToNat] at ho4;rw [← Ny493.out] at ho4));have n_:=as2_ (Kd.R_lower ho4 (G4 (bb_))) (D0 (bb_) hb);clear HB;obtain ⟨HO495,HB⟩:=n_;clear hb ho4) | ((with_reducible refine P8 (b:=.append) (xs:=#[.tmp 5,.tmp 6]) rfl ?_);at_builtin;refine Kd.R_append_rows k106 (w0:=w) w.heap.size rfl (.tmp 5) (.tmp 6) 32 106 (.agg #[(.int .i64 0),(.int .i64 0),(.int .i64 0)]) 24 rfl Tryz.underlying32 A1w rfl (by decide) (by omega) v494 y493 l0 _ _ _ (fun _=>True) (fun _=>False) rfl rfl ?aO ?aR (fun _ _ h=>h) (fun _ h=>h.elim) ?aF ?aB ?aS ?aL ?_;(case aR=>exact cc_ (Kd.C_below HR0.out HB.out));(case aB=>exact (bb_));(case aF=>exact (fun _ _=>trivial));(case aO=>exact (pe_ HO495.out));(case aS=>exact (G4 (bb_)));(case aL=>have:=LMc2.out;omega);intro v497 w5 ho hb hg hat;rw [← Ny496.out] at ho;have n_:=as2_ (hb) (ho);clear HB HO495;obtain ⟨HB,HO498⟩:=n_;clear ho hb hg hat))
   go_ret;exact ⟨_,er_,pe_ HO498.out,bb_⟩
 ·
  rw [if_neg c2] at H;exact absurd H (by simp)
theorem Z2.calls (A0:Option Addr) (c0:Nat) (l0:List (S60)) (r:List (S60)) (w:World) (hr0:Kd.C k60 w A0 l0.length l0) (hc0:l0.length≤c0) (h:Z2.f l0=some r) :
 Calls Tryz.prog 101 #[.slice A0 l0.length c0] w fun e w'=>∃ v0_:Value,e = .returned (v0_)∧Kd.R k60 60 w' w.heap.size (fun _=>True) v0_ r∧Below w.heap.size w w':=by
 have HR0:=B0.mk hr0;have HC0:=B0.mk hc0;clear hr0 hc0;have HB:=B0.mk (Below.refl w.heap.size w);have H:((some (([]:List (S60)):List (S60))).bind fun y499=>(if y499.length+l0.length<2199023255552 then (some (y499++l0)) else (none)))=some r:=h;clear h;obtain ⟨y499,hy499⟩:∃ y_:List (S60),y_=(([]:List (S60))):=⟨_,rfl⟩;replace H:(if y499.length+l0.length<2199023255552 then (some (y499++l0)) else (none))=some r:=rh_ hy499 H;have Ny499:=B0.mk hy499;clear hy499
 by_cases c2:y499.length+l0.length<2199023255552
 ·
  rw [if_pos c2] at H;have LMc2:=B0.mk c2;clear c2;obtain ⟨y502,hy502⟩:∃ y_:List (S60),y_=(y499++l0):=⟨_,rfl⟩;replace H:(some y502)=some r:=rh_ hy502 H;have Ny502:=B0.mk hy502;clear hy502;obtain rfl:=Option.some.inj H;have q_:∀ (W:World) (a:Option Addr) (n c n' c':Nat),(binOp .eql 34 (.slice a n c) (.slice none n' c')).run Tryz.prog W = .ok (.bool a.isNone) W:=fun W a n c n' c'=>Lib.run_eql_slice_nil W _ _ a n c n' c' Tryz.underlying34
  cases A0 with
  | none=>
   have e0_:l0=[]:=by
    have h_:Q3 _ _ _ _ _ _:=HR0.out;unfold Q3 at h_
    obtain ⟨h1_,_,h2_⟩:=h_;apply List.eq_nil_of_length_eq_zero
    apply Classical.byContradiction
    intro hn_
    obtain ⟨ad_,e_,_⟩:=h2_ (by omega)
    cases e_
   have Ny0_:y502=[]:=by rw [Ny502.out,Ny499.out,e0_];rfl
   subst Ny0_;go_enter Tryz.func101,Tryz.ntmps101;go_wp2;go_ret;exact ⟨_,rs_,Kd.R_nil _ _ _ _ _,HB.out⟩
  | some ad0=>
   go_enter Tryz.func101,Tryz.ntmps101
   go_wp2_with (first | ((with_reducible refine P7 (N:=5) rfl ?_);refine Kd.R_lit k60 _ 60 ?hg (N:=5) ?hd (xs:=([]:List (S60))) (inner:=[]) (ok:=fun _=>True) (okp:=fun _=>True) ?hr ?hp (fun _ hk=>hk) trivial (Below.refl _ _) (Nat.le_refl _) (by simp) ?_;(case hd=>rfl);(case hg=>rfl);(case hr=>first | (go_simp;done) | (go_simp;rfl));(case hp=>exact (Reps.none _ _));intro v500 w3 ho4 hb hg_ hnew_;clear hg_ hnew_;(first | rw [← Ny499.out] at ho4 | (simp only [Int.reduceToNat] at ho4;rw [← Ny499.out] at ho4));have n_:=as2_ (Kd.R_lower ho4 (G4 (bb_))) (D0 (bb_) hb);clear HB;obtain ⟨HO501,HB⟩:=n_;clear hb ho4) | ((with_reducible refine P8 (b:=.append) (xs:=#[.tmp 5,.tmp 6]) rfl ?_);at_builtin;refine Kd.R_append_rows k60 (w0:=w) w.heap.size rfl (.tmp 5) (.tmp 6) 34 60 (.agg #[(.int .i64 0),(.int .i64 0),(.int .i64 0),(.int .i64 0),(.int .i64 0),(.int .i64 0),(.int .i64 0),(.int .i64 0)]) 64 rfl Tryz.underlying34 C9t rfl (by decide) (by omega) v500 y499 l0 _ _ _ (fun _=>True) (fun _=>False) rfl rfl ?aO ?aR (fun _ _ h=>h) (fun _ h=>h.elim) ?aF ?aB ?aS ?aL ?_;(case aR=>exact cc_ (Kd.C_below HR0.out HB.out));(case aB=>exact (bb_));(case aF=>exact (fun _ _=>trivial));(case aO=>exact (pe_ HO501.out));(case aS=>exact (G4 (bb_)));(case aL=>have:=LMc2.out;omega);intro v503 w5 ho hb hg hat;rw [← Ny502.out] at ho;have n_:=as2_ (hb) (ho);clear HB HO501;obtain ⟨HB,HO504⟩:=n_;clear ho hb hg hat))
   go_ret;exact ⟨_,er_,pe_ HO504.out,bb_⟩
 ·
  rw [if_neg c2] at H;exact absurd H (by simp)
theorem A0e.calls (a0:Int) (r:Bool) (w:World) (h:A0e.f a0=some r) :
 Calls Tryz.prog 116 #[.int .i64 a0] w fun e w'=>e = .returned (.bool r)∧A0g w w':=by
 have H:((I5.f a0).bind fun t1414=>(some (!t1414)))=some r:=h;clear h;replace H:=Option.bind_eq_some_iff.mp H;obtain ⟨t1414,A20,H⟩:=H;have A2:=B0.mk A20;clear A20;obtain rfl:=Option.some.inj H;go_enter Tryz.func116,Tryz.ntmps116;go_wp2_with (first | ((with_reducible refine M3 (f:=38) rfl ?_);refine V6 (some 4) rfl rfl Tryz.func38 kr_ rfl #[.int .i64 a0] rfl (bc_) ?_;(with_reducible refine (I5.calls a0 t1414 _ A2.out).mono ?_);rintro e w' ⟨rfl,⟨nd,rfl⟩⟩;refine ⟨_,rfl,?_⟩))
 go_ret;exact ⟨rs_,dr_⟩
theorem IndexFunc_int.calls (A0:Option Addr) (c0:Nat) (l0:List Int) (fc:FuncId) (caps:Array Value) (p:Int→Bool) (w:World) (hr0:Kd.C (Kd.int .i64) w A0 l0.length l0) (hc0:l0.length≤c0) (hp:X0.FnB Tryz.prog fc caps w (fun x=>.int .i64 x) p) :
 Calls Tryz.prog 154 #[.slice A0 l0.length c0,.func (.func fc) #[] caps] w fun e w'=>e = .returned (.int .i64 (X0.idx p l0))∧Below w.heap.size w w':=by
 obtain ⟨fn,hf,hn,hb,hcall⟩:=hp;have HR0:=B0.mk hr0;have HC0:=B0.mk hc0;have HF:=B0.mk hf;have HN:=B0.mk hn;have HBo:=B0.mk hb;have HP:=B0.mk hcall;have HM:=B0.mk (Kd.C_max hr0);clear hr0 hc0 hf hn hb hcall;have HB:=B0.mk (Below.refl w.heap.size w);go_enter Tryz.func154,Tryz.ntmps154;go_wp2;go_loopg [8] l0.length (fun kq v8 w'=>∃ (x:Int),v8 = .int .i64 x∧B0 (0≤x∧x≤l0.length∧kq=(l0.length-x).toNat∧∀ j:Nat,j<x.toNat→p (l0.getD j 0)=false)∧B0 (Below w.heap.size w w'))
 case atStart=>exact ⟨0,rfl,⟨Int.le_refl _,by omega,by omega,fun j hj=>by omega⟩,⟨HB.out⟩⟩
 case round=>
  obtain ⟨x,rfl,HA,HB⟩:=hrel
  by_cases c2:x<(l0.length:Int)
  ·
   have p1:0≤x:=HA.out.1;obtain ⟨ad,e,hx⟩:=Kd.at_int HR0.out x p1 c2;cases e;replace hx:=A3s HB.out hx;have c2b0:decide (x<(l0.length:Int))=true:=decide_eq_true c2;have C2:=B0.mk c2;replace p1:=eq_true p1;have q1:=eq_true c2;clear c2
   cases hpx:p (rd l0 x) with
   | true=>
    have HX:=B0.mk hpx;clear hpx;go_wp2_with (first | ((with_reducible refine P7 (N:=16) rfl ?_);refine X0.goesV_ (some 16) rfl rfl caps HF.out HN.out HBo.out #[.int .i64 (rd l0 x)] rfl rfl (by (try simp only [List.map_toArray,List.map_cons,List.map_nil]);first | done | rfl) ?_;refine (HP.out (rd l0 x) _ HB.out).mono ?_;rintro e w6 ⟨rfl,hb6⟩;refine ⟨_,rfl,?_⟩;rw [HX.out];replace HB:=B0.mk (D0 HB.out hb6);clear hb6))
    go_ret
    exact ⟨by
     have:=HA.out;have h2:=C2.out;have e1:rd l0 x=l0.getD x.toNat 0:=rfl;have h3:=HX.out;rw [e1] at h3;rw [X0.idx_found p 0 l0 x.toNat (by omega) this.2.2.2 h3,Int.toNat_of_nonneg this.1]
     rfl,HB.out⟩
   | false=>
    have HX:=B0.mk hpx;clear hpx;go_wp2_with (first | ((with_reducible refine P7 (N:=16) rfl ?_);refine X0.goesV_ (some 16) rfl rfl caps HF.out HN.out HBo.out #[.int .i64 (rd l0 x)] rfl rfl (by (try simp only [List.map_toArray,List.map_cons,List.map_nil]);first | done | rfl) ?_;refine (HP.out (rd l0 x) _ HB.out).mono ?_;rintro e w6 ⟨rfl,hb6⟩;refine ⟨_,rfl,?_⟩;rw [HX.out];replace HB:=B0.mk (D0 HB.out hb6);clear hb6))
    go_roundg (l0.length-(x+1)).toNat
    case measure=>have:=HA.out;have:=C2.out;omega
    case rel=>
     have h1:=HA.out;have h2:=C2.out;have h4:=HM.out;refine ⟨wrap64 (x+1),(rs_),⟨?_⟩,⟨HB.out⟩⟩
     have hw:wrap64 (x+1)=x+1:=by unfold wrap64;omega
     rw [hw]
     refine ⟨by omega,by omega,rfl,fun j hj=>?_⟩
     by_cases hj2:j<x.toNat
     ·
      exact h1.2.2.2 j hj2
     ·
      obtain rfl:j=x.toNat:=by omega
      exact HX.out
  ·
   have c2b0:decide (x<(l0.length:Int))=false:=decide_eq_false c2;have C2:=B0.mk c2;clear c2;go_wp2;go_ret
   exact ⟨by
    have:=HA.out;have h2:=C2.out;rw [X0.idx_none p 0 l0 fun j hj=>this.2.2.2 j (by omega)]
    rfl,HB.out⟩
theorem ContainsFunc_int.calls (A0:Option Addr) (c0:Nat) (l0:List Int) (fc:FuncId) (caps:Array Value) (p:Int→Bool) (w:World) (hr0:Kd.C (Kd.int .i64) w A0 l0.length l0) (hc0:l0.length≤c0) (hp:X0.FnB Tryz.prog fc caps w (fun x=>.int .i64 x) p) :
 Calls Tryz.prog 115 #[.slice A0 l0.length c0,.func (.func fc) #[] caps] w fun e w'=>e = .returned (.bool (l0.any p))∧Below w.heap.size w w':=by
 have HI:=B0.mk (IndexFunc_int.calls A0 c0 l0 fc caps p w hr0 hc0 hp);clear hr0 hc0 hp;go_enter Tryz.func115,Tryz.ntmps115;go_wp2_with (first | (go_at_call 154;refine HI.out.mono ?_;rintro e w6 ⟨rfl,hb6⟩;have HB:=B0.mk hb6;clear hb6))
 go_ret
 exact ⟨by
  rw [← X0.idx_any p l0]
  rfl,HB.out⟩
theorem N6.in_ (a lo hi:Int):J7.f a lo hi=some (decide (lo≤a∧a≤hi)):=by
 unfold J7.f
 by_cases h:a≥lo
 ·
  rw [if_pos h]
  congr 1
  rw [Bool.eq_iff_iff,decide_eq_true_iff,decide_eq_true_iff]
  omega
 ·
  rw [if_neg h]
  congr 1
  symm
  rw [decide_eq_false_iff_not]
  omega
theorem N6.clo (x:Int):A0e.f x=some (N6.bad x):=by
 unfold A0e.f I5.f N6.bad
 simp only [N6.in_,Option.bind_some]
theorem N6.pred (w:World):X0.FnB Tryz.prog 116 #[] w (fun x:Int=>.int .i64 x) N6.bad:=
 ⟨_,Tryz.func116,by kernel_rfl,rfl,fun x W _=>(A0e.calls x (N6.bad x) W (N6.clo x)).mono fun e W' h=>⟨h.1,h.2.below⟩⟩
theorem N6.calls (A0:Option Addr) (c0:Nat) (l0:List Int) (r:Bool) (w:World) (hr0:Kd.C (Kd.int .i64) w A0 l0.length l0) (hc0:l0.length≤c0) (h:N6.f l0=some r) :
 Calls Tryz.prog 70 #[.slice A0 l0.length c0] w fun e w'=>e = .returned (.bool r)∧Below w.heap.size w w':=by
 have HR0:=B0.mk hr0;have HC0:=B0.mk hc0;clear hr0 hc0;have HB:=B0.mk (Below.refl w.heap.size w);unfold N6.f at h
 obtain rfl:=Option.some.inj h;clear h;go_enter Tryz.func70,Tryz.ntmps70;go_wp2_with (first | ((with_reducible refine M3 (f:=115) rfl ?_);(try (refine A1p (by rfl) ?_;dsimp only));refine V6 (some 4) rfl rfl Tryz.func115 kr_ rfl #[.slice A0 l0.length c0,.func (.func 116) #[] #[]] rfl (by (try simp only [List.map_toArray,List.map_cons,List.map_nil]);first | done | rfl) ?_;(with_reducible refine (ContainsFunc_int.calls _ _ l0 _ #[] N6.bad _ ?side1 HC0.out (N6.pred _)).mono ?_);(case side1=>exact cc_ HR0.out);rintro e w6 ⟨rfl,hb⟩;refine ⟨_,rfl,?_⟩;replace HB:=B0.mk (D0 (bb_) hb);clear hb))
 go_ret;exact ⟨rs_,bb_⟩
theorem IndexFunc_st93.calls (A0:Option Addr) (c0:Nat) (l0:List (S93)) (fc:FuncId) (caps:Array Value) (p:S93→Bool) (w:World) (hr0:Kd.C k93 w A0 l0.length l0) (hc0:l0.length≤c0) (hp:X0.FnB Tryz.prog fc caps w (fun x=>.agg #[.int .i64 x.f0,.int .i64 x.f1,.int .i64 x.f2]) p) :
 Calls Tryz.prog 188 #[.slice A0 l0.length c0,.func (.func fc) #[] caps] w fun e w'=>e = .returned (.int .i64 (X0.idx p l0))∧Below w.heap.size w w':=by
 obtain ⟨fn,hf,hn,hb,hcall⟩:=hp;have HR0:=B0.mk hr0;have HC0:=B0.mk hc0;have HF:=B0.mk hf;have HN:=B0.mk hn;have HBo:=B0.mk hb;have HP:=B0.mk hcall;have HM:=B0.mk (Kd.C_max hr0);clear hr0 hc0 hf hn hb hcall;have HB:=B0.mk (Below.refl w.heap.size w);have hu93:=Tryz.underlying93;go_enter Tryz.func188,Tryz.ntmps188;go_wp2;go_loopg [8] l0.length (fun kq v8 w'=>∃ (x:Int),v8 = .int .i64 x∧B0 (0≤x∧x≤l0.length∧kq=(l0.length-x).toNat∧∀ j:Nat,j<x.toNat→p (l0.getD j z93)=false)∧B0 (Below w.heap.size w w'))
 case atStart=>exact ⟨0,rfl,⟨Int.le_refl _,by omega,by omega,fun j hj=>by omega⟩,⟨HB.out⟩⟩
 case round=>
  obtain ⟨x,rfl,HA,HB⟩:=hrel
  by_cases c2:x<(l0.length:Int)
  ·
   have p1:0≤x:=HA.out.1;obtain ⟨ad,e,hx_0,hx_1,hx_2⟩:=D2c HR0.out x p1 c2;cases e;replace hx_0:=cl_ HB.out hx_0;replace hx_1:=cl_ HB.out hx_1;replace hx_2:=cl_ HB.out hx_2;have c2b0:decide (x<(l0.length:Int))=true:=decide_eq_true c2;have C2:=B0.mk c2;replace p1:=eq_true p1;have q1:=eq_true c2;clear c2
   cases hpx:p (K2 l0 x) with
   | true=>
    have HX:=B0.mk hpx;clear hpx;go_wp2_with (first | ((with_reducible refine P7 (N:=16) rfl ?_);refine X0.goesV_ (some 16) rfl rfl caps HF.out HN.out HBo.out #[.agg #[.int .i64 (K2 l0 x).f0,.int .i64 (K2 l0 x).f1,.int .i64 (K2 l0 x).f2]] rfl rfl (by (try simp only [List.map_toArray,List.map_cons,List.map_nil]);first | done | rfl) ?_;refine (HP.out (K2 l0 x) _ HB.out).mono ?_;rintro e w6 ⟨rfl,hb6⟩;refine ⟨_,rfl,?_⟩;rw [HX.out];replace HB:=B0.mk (D0 HB.out hb6);clear hb6))
    go_ret
    exact ⟨by
     have:=HA.out;have h2:=C2.out;have e1:K2 l0 x=l0.getD x.toNat z93:=rfl;have h3:=HX.out;rw [e1] at h3;rw [X0.idx_found p z93 l0 x.toNat (by omega) this.2.2.2 h3,Int.toNat_of_nonneg this.1]
     rfl,HB.out⟩
   | false=>
    have HX:=B0.mk hpx;clear hpx;go_wp2_with (first | ((with_reducible refine P7 (N:=16) rfl ?_);refine X0.goesV_ (some 16) rfl rfl caps HF.out HN.out HBo.out #[.agg #[.int .i64 (K2 l0 x).f0,.int .i64 (K2 l0 x).f1,.int .i64 (K2 l0 x).f2]] rfl rfl (by (try simp only [List.map_toArray,List.map_cons,List.map_nil]);first | done | rfl) ?_;refine (HP.out (K2 l0 x) _ HB.out).mono ?_;rintro e w6 ⟨rfl,hb6⟩;refine ⟨_,rfl,?_⟩;rw [HX.out];replace HB:=B0.mk (D0 HB.out hb6);clear hb6))
    go_roundg (l0.length-(x+1)).toNat
    case measure=>have:=HA.out;have:=C2.out;omega
    case rel=>
     have h1:=HA.out;have h2:=C2.out;have h4:=HM.out;refine ⟨wrap64 (x+1),(rs_),⟨?_⟩,⟨HB.out⟩⟩
     have hw:wrap64 (x+1)=x+1:=by unfold wrap64;omega
     rw [hw]
     refine ⟨by omega,by omega,rfl,fun j hj=>?_⟩
     by_cases hj2:j<x.toNat
     ·
      exact h1.2.2.2 j hj2
     ·
      obtain rfl:j=x.toNat:=by omega
      exact HX.out
  ·
   have c2b0:decide (x<(l0.length:Int))=false:=decide_eq_false c2;have C2:=B0.mk c2;clear c2;go_wp2;go_ret
   exact ⟨by
    have:=HA.out;have h2:=C2.out;rw [X0.idx_none p z93 l0 fun j hj=>this.2.2.2 j (by omega)]
    rfl,HB.out⟩
theorem ContainsFunc_st93.calls (A0:Option Addr) (c0:Nat) (l0:List (S93)) (fc:FuncId) (caps:Array Value) (p:S93→Bool) (w:World) (hr0:Kd.C k93 w A0 l0.length l0) (hc0:l0.length≤c0) (hp:X0.FnB Tryz.prog fc caps w (fun x=>.agg #[.int .i64 x.f0,.int .i64 x.f1,.int .i64 x.f2]) p) :
 Calls Tryz.prog 175 #[.slice A0 l0.length c0,.func (.func fc) #[] caps] w fun e w'=>e = .returned (.bool (l0.any p))∧Below w.heap.size w w':=by
 have HI:=B0.mk (IndexFunc_st93.calls A0 c0 l0 fc caps p w hr0 hc0 hp);clear hr0 hc0 hp;go_enter Tryz.func175,Tryz.ntmps175;go_wp2_with (first | (go_at_call 188;refine HI.out.mono ?_;rintro e w6 ⟨rfl,hb6⟩;have HB:=B0.mk hb6;clear hb6))
 go_ret
 exact ⟨by
  rw [← X0.idx_any p l0]
  rfl,HB.out⟩
theorem I0.in_ (a lo hi:Int):J7.f a lo hi=some (decide (lo≤a∧a≤hi)):=by
 unfold J7.f
 by_cases h:a≥lo
 ·
  rw [if_pos h]
  congr 1
  rw [Bool.eq_iff_iff,decide_eq_true_iff,decide_eq_true_iff]
  omega
 ·
  rw [if_neg h]
  congr 1
  symm
  rw [decide_eq_false_iff_not]
  omega
theorem I0.clo (x:S93):S0.f x.f0 x.f1 x.f2=some (I0.bad x):=by
 unfold S0.f I5.f L7.f I0.bad
 simp only [I0.in_,Option.bind_some]
 by_cases h1:1≤x.f0∧x.f0≤1000<;>by_cases h2:1≤x.f1∧x.f1≤1000<;>simp [h1,h2]
theorem I0.pred (w:World):X0.FnB Tryz.prog 176 #[] w (fun x:S93=>.agg #[.int .i64 x.f0,.int .i64 x.f1,.int .i64 x.f2]) I0.bad:=
 ⟨_,Tryz.func176,by kernel_rfl,rfl,fun x W _=>S0.calls x.f0 x.f1 x.f2 (I0.bad x) W (I0.clo x)⟩
theorem I0.calls (A0:Option Addr) (c0:Nat) (l0:List (S93)) (r:Bool) (w:World) (hr0:Kd.C k93 w A0 l0.length l0) (hc0:l0.length≤c0) (h:I0.f l0=some r) :
 Calls Tryz.prog 155 #[.slice A0 l0.length c0] w fun e w'=>e = .returned (.bool r)∧Below w.heap.size w w':=by
 have HR0:=B0.mk hr0;have HC0:=B0.mk hc0;clear hr0 hc0;have HB:=B0.mk (Below.refl w.heap.size w);unfold I0.f at h
 obtain rfl:=Option.some.inj h;clear h
 by_cases c1:(l0.length:Int)≤160
 ·
  have HD:=B0.mk (decide_eq_true c1);rw [HD.out]
  have c1b0:=decide_eq_true c1;clear c1;go_enter Tryz.func155,Tryz.ntmps155;go_wp2_with (first | ((with_reducible refine M3 (f:=175) rfl ?_);(try (refine A1p (by rfl) ?_;dsimp only));refine V6 (some 8) rfl rfl Tryz.func175 kr_ rfl #[.slice A0 l0.length c0,.func (.func 176) #[] #[]] rfl (by (try simp only [List.map_toArray,List.map_cons,List.map_nil]);first | done | rfl) ?_;(with_reducible refine (ContainsFunc_st93.calls _ _ l0 _ #[] I0.bad _ ?side1 HC0.out (I0.pred _)).mono ?_);(case side1=>exact cc_ HR0.out);rintro e w6 ⟨rfl,hb⟩;refine ⟨_,rfl,?_⟩;replace HB:=B0.mk (D0 (bb_) hb);clear hb))
  go_ret;exact ⟨rs_,bb_⟩
 ·
  have HD:=B0.mk (decide_eq_false c1);rw [HD.out]
  have c1b0:=decide_eq_false c1;clear c1;go_enter Tryz.func155,Tryz.ntmps155;go_wp2;go_ret;exact ⟨rs_,bb_⟩
theorem O0.flat:IN.Flat k106 (fun x:S106=>([.int .i64 x.f0,.int .i64 x.f1,.int .i64 x.f2]:List Value)):=⟨fun h=>A4q h,fun w base ok x=>A4a w base ok x,fun h=>A6f h⟩
theorem O0.zero (w:World):(zeroValue 106).run Tryz.prog w = .ok (.agg #[(.int .i64 0),(.int .i64 0),(.int .i64 0)]) w:=by
 obtain ⟨i0,hi,hz⟩:=Option.map_eq_some_iff.1 A1w;simp only [Prod.mk.injEq] at hz;simp [zeroValue,typeInfo,hi,hz.1]
theorem O0.cut (w W1 W2:World) (gg n i j co:Nat) (A:Addr) (news:List Value) (hij:i<j) (hj:j≤n) (hnc:n≤co) (hm:co≤9223372036854775807) (hA:(if co=j then some (⟨gg,0,none⟩:Addr) else some ⟨gg,j*3,none⟩)=some A)
 (s1:news.length=(n-j)*3) (hsrc:∀ t u,news[t]? = some u→w.drew.cell? (A.add t)=some u) (s2:∀ u∈news,u.oneCell'=true) (s3:∀ t,t<news.length→(w.drew.cell? ⟨gg,0+i*3+t,none⟩).isSome=true∧w.drew.frozen? ⟨gg,0+i*3+t,none⟩=false)
 (hcl:∀ ty,(Builtin.clear_ #[32] ty #[.slice (some ⟨gg,(i+(n-j))*3,none⟩) (n-(i+(n-j))) (co-(i+(n-j)))]).run Tryz.prog W1 = .ok (.tuple #[]) W2)
 (hW:W1=w.drew.setCells gg (0+i*3) news) :
 Calls Tryz.prog 177 #[.slice (some ⟨gg,0,none⟩) n co,.int .i64 i,.int .i64 j] w fun e w'=>e = .returned (.slice (some ⟨gg,0,none⟩) (i+(n-j)) co)∧w'=W2:=by
 have mixed:Tryz.prog.follows .mixedOrders=true:=by kernel_rfl
 have hu106:=Tryz.underlying106;obtain ⟨i0,hi0,hz⟩:=Option.map_eq_some_iff.1 A1w;simp only [Prod.mk.injEq] at hz;have HI:=B0.mk hi0;have HZ:=B0.mk hz.2.1;have hic:i≤co:=by omega
 have hjc:j≤co:=by omega
 have hlt:i<j:=hij
 have e1:((i:Int) == (j:Int))=false:=by
  rw [beq_eq_false_iff_ne]
  omega
 have X1:=B0.mk s1;have X2:=B0.mk s2;have X3:=B0.mk s3;have X4:=B0.mk hsrc;have HW:=B0.mk hW;have hb2:¬ (co=i+(n-j)):=by omega
 clear s1 s2 s3 hsrc hW hi0 hz;go_enter Tryz.func177,Tryz.ntmps177;go_wp2_with fail;go_region_law_o (refine step_append_room rfl (.tmp 22) (.tmp 25) 32 rfl 106 i0 3 Tryz.underlying32 HI.out HZ.out gg 0 i co (by simp [Act.eval,Act.put]) A (n-j) (co-j) news (by simp [Act.eval,Act.put]) X1.out X4.out X2.out (by omega) X3.out ?_;rw [← HW.out])
 go_wp2;go_ret;exact ⟨rfl,rfl⟩
set_option maxHeartbeats 2000000 in
theorem O0.calls (P0_:Nat→Prop) (u9000_:Value) (l0:List (S106)) (a1 a2:Int) (r:List (S106)) (w0 w:World) (hB:Below w0.heap.size w0 w) (ho0:Kd.R k106 106 w w0.heap.size P0_ u9000_ l0) (h:O0.f l0 a1 a2=some r) :
 Calls Tryz.prog 177 #[u9000_,.int .i64 a1,.int .i64 a2] w fun e w'=>∃ v0_:Value,e = .returned (v0_)∧Kd.R k106 106 w' w0.heap.size (fun k_=>(P0_ k_∨w.heap.size≤k_)) v0_ r∧Below w0.heap.size w0 w'∧Kept w w' (fun k_=>P0_ k_):=by
 unfold O0.f at h
 by_cases hg:0≤a1∧a1<a2∧a2≤(l0.length:Int)∧l0.length<1048577
 ·
  rw [if_pos hg] at h;obtain rfl:=Option.some.inj h;clear h;obtain ⟨g1,g2,g3,g4⟩:=hg;obtain ⟨i,rfl⟩:=Int.eq_ofNat_of_zero_le g1;obtain ⟨j,rfl⟩:=Int.eq_ofNat_of_zero_le (show 0≤a2 by omega)
  have g5:i<j:=by omega
  have g6:j≤l0.length:=by omega
  rw [Int.toNat_natCast,Int.toNat_natCast]
  obtain ⟨hv,hv2⟩ | ⟨gg,co,rfl⟩:=IN.R_cases ho0
  ·
   subst hv2;exact absurd g6 (by simp;omega)
  obtain ⟨n1,n2,n3,n4,n5,cur,hc,hcs,S,hL⟩:=IN.R_raw O0.flat ho0;have hlen:(l0.take i++l0.drop j).length=i+(l0.length-j):=by simp;omega
  have zl:(Builtin.zeroCells (Value.agg #[Value.int .i64 0,Value.int .i64 0,Value.int .i64 0]).cells (l0.length-(i+(l0.length-j)))).toList.length=(l0.length-(i+(l0.length-j)))*3:=by rw [DL.zeroCells_len];rfl
  obtain ⟨W1,hW1⟩:∃ W1,W1=w.drew.setCells gg (i*3) ((l0.drop j).flatMap (fun x:S106=>([.int .i64 x.f0,.int .i64 x.f1,.int .i64 x.f2]:List Value))):=⟨_,rfl⟩;obtain ⟨W2,hW2⟩:∃ W2,W2=W1.setCells gg ((i+(l0.length-j))*3) (Builtin.zeroCells (Value.agg #[Value.int .i64 0,Value.int .i64 0,Value.int .i64 0]).cells (l0.length-(i+(l0.length-j)))).toList:=⟨_,rfl⟩;obtain ⟨s1,s2,s3,s4,s5,r3,cur2,S2,r4,r5,r6⟩:=DL.delete_row O0.flat (k:=3) rfl (W:=w.drew) hc hcs hL (Nat.le_of_lt g5) g6 zl hW1 hW2;have rg:w.grownBy W2 (some gg):=⟨r3.os,r3.tape,r3.output,r3.size,r3.block⟩;have hcl:=fun ty=>DL.run_clear_k (P:=Tryz.prog) W1 32 106 ty (.agg #[Value.int .i64 0,Value.int .i64 0,Value.int .i64 0]) Tryz.underlying32 O0.zero 3 rfl (by intro v hv;simp [Value.cells] at hv;simp [hv,Value.oneCell']) gg ((i+(l0.length-j))*3) (l0.length-(i+(l0.length-j))) (co-(i+(l0.length-j))) (fun t ht=>(s5 t ht).1) (fun t ht=>(s5 t ht).2)
  rw [← hW2] at hcl
  obtain ⟨A,hA,hsrc⟩:∃ A:Addr,(if co=j then some (⟨gg,0,none⟩:Addr) else some ⟨gg,j*3,none⟩)=some A∧∀ t u,((l0.drop j).flatMap (fun x:S106=>([.int .i64 x.f0,.int .i64 x.f1,.int .i64 x.f2]:List Value)))[t]? = some u→w.drew.cell? (A.add t)=some u:=by
   by_cases hcj:co=j
   ·
    refine ⟨⟨gg,0,none⟩,by rw [if_pos hcj],fun t u hu=>?_⟩
    have:=(List.getElem?_eq_some_iff.1 hu).1;rw [s1] at this;omega
   ·
    exact ⟨⟨gg,j*3,none⟩,by rw [if_neg hcj],s3⟩
  refine (O0.cut w W1 W2 gg l0.length i j co A _ g5 g6 n2 (by have:=n3;unfold maxLen at this;exact this) hA s1 hsrc s2 s4 hcl (by rw [hW1,Nat.zero_add])).mono ?_
  rintro e w' ⟨rfl,rfl⟩;refine ⟨_,rfl,?_,hB.grown rg (G4 hB) (fun k hk=>by cases hk;exact n4),IN.kept_grown rg (fun k hk=>by cases hk;exact n5)⟩
  have hR:=IN.R_of_raw O0.flat (ok:=fun k_=>P0_ k_∨w.heap.size≤k_) n4 (.inl n5) r4 (xs:=l0.take i++l0.drop j) (by omega) n3 (by rw [r5];exact hcs) r6
  rw [hlen] at hR;exact hR
 ·
  rw [if_neg hg] at h;cases h
theorem F7.flat:IN.Flat k106 (fun x:S106=>([.int .i64 x.f0,.int .i64 x.f1,.int .i64 x.f2]:List Value)):=⟨fun h=>A4q h,fun w base ok x=>A4a w base ok x,fun h=>A6f h⟩
theorem F7.ov_size (W:World):(Go.sizeOf 106).run Tryz.prog W = .ok 3 W:=by
 obtain ⟨i0,hi,hz⟩:=Option.map_eq_some_iff.1 A1w;simp only [Prod.mk.injEq] at hz;simp [Go.sizeOf,typeInfo,hi,hz.2.1]
theorem F7.ov_find:Extern.find Tryz.f189=some (Extern.SlicesOverlaps.overlaps #[32,32] #[4]):=by kernel_rfl
theorem F7.ov_run (args:Array Value) (w:World):(callFunc 189 args).run Tryz.prog w=((Extern.SlicesOverlaps.overlaps #[32,32] #[4] args).run Tryz.prog w).andThen fun v w'=>.ok (.value v) w':=
 run_callFunc_extern Tryz.func189 kr_ kr_ kr_ F7.ov_find args w
theorem F7.ov_apart {w:World} {a b:Addr} {la ca lb cb:Nat} (hne:a.block≠b.block) {curv cur:Array Value} (hcv:w.heap[a.block]? = some (.cells curv 106 (0,0))) (hc:w.heap[b.block]? = some (.cells cur 106 (0,0))) (h0:cur.size≠0) (hf:w.frozen? a=false) :
 (callFunc 189 #[.slice (some a) la ca,.slice (some b) lb cb]).run Tryz.prog w = .ok (.value (.bool false)) w:=by
 have h:=Lib.run_overlaps_apart w 32 4 106 Tryz.underlying32 3 F7.ov_size a b la ca lb cb hne 106 106 curv.size cur.size (by simp [World.shape?,hcv]) (by simp [World.shape?,hc]) h0 hf (Q6 hcv _)
 rw [F7.ov_run,h]
 rfl
theorem F7.sized:(Tryz.prog.info? 106).map (·.size)=some 3:=by
 obtain ⟨i0,hi,hz⟩:=Option.map_eq_some_iff.1 A1w;simp only [Prod.mk.injEq] at hz;rw [hi,Option.map_some,hz.2.1]
theorem F7.room (w W1 W2:World) (gg vb n i co cv:Nat) (hi:i<n) (hroom:n+1≤co) (hn:n<1048577)
 (hov:∀ lb cb,(callFunc 189 #[.slice (some ⟨vb,0,none⟩) 1 cv,.slice (some ⟨gg,(i+1)*3,none⟩) lb cb]).run Tryz.prog w = .ok (.value (.bool false)) w)
 (r1:∀ ty dc sc,(Builtin.copy_ #[32,32] ty #[.slice (some ⟨gg,(i+1)*3,none⟩) (n-i) dc,.slice (some ⟨gg,i*3,none⟩) (n+1-i) sc]).run Tryz.prog w.drew = .ok (goInt ((n-i:Nat):Int)) W1)
 (r2:∀ ty dc sc,(Builtin.copy_ #[32,32] ty #[.slice (some ⟨gg,i*3,none⟩) (n+1-i) dc,.slice (some ⟨vb,0,none⟩) 1 sc]).run Tryz.prog W1 = .ok (goInt 1) W2) :
 Calls Tryz.prog 178 #[.slice (some ⟨gg,0,none⟩) n co,.int .i64 i,.slice (some ⟨vb,0,none⟩) 1 cv] w fun e w'=>e = .returned (.slice (some ⟨gg,0,none⟩) (n+1) co)∧w'=W2:=by
 have mixed:Tryz.prog.follows .mixedOrders=true:=by kernel_rfl
 have hu106:=Tryz.underlying106
 have e1:((i:Int) == (n:Int))=false:=by
  rw [beq_eq_false_iff_ne]
  omega
 have q1:(0:Int)≤(i:Int):=by omega
 have q2:(i:Int)≤(n:Int):=by omega
 have w1:wrap64 ((n:Int)+1)=(n:Int)+1:=by unfold wrap64;omega
 have e2:decide ((co:Int)<(n:Int)+1)=false:=decide_eq_false (by omega)
 have hw1:IntKind.i64.wrap ((i:Int)+1)=(i:Int)+1:=by rw [IntKind.wrap_i64];omega
 have hb1:(0:Int)≤(i:Int)+1:=by omega
 have hb0:(i:Int)+1≤(n:Int)+1:=by omega
 have htn:((i:Int)+1).toNat=i+1:=by omega
 have hb2:¬ (co=i+1):=by omega
 have hb3:(i:Int)≤(n:Int)+1:=by omega
 have hb4:¬ (co=i):=by omega
 have hb5:n+1-(i+1)=n-i:=by omega
 have R1:=B0.mk r1;have R2:=B0.mk r2;go_enter Tryz.func178,Tryz.ntmps178;go_wp2_with (simp only [hov])
 go_region_law_o (refine IN.step_copy rfl _ _ 32 32 rfl _ _ (by simp [Act.eval,Act.put]) (by simp [Act.eval,Act.put]) (R1.out _ _ _) ?_)
 go_wp2;go_ret;exact ⟨rfl,rfl⟩
theorem F7.grow (w Wa W1 W2:World) (gg vb hh n i co cv C:Nat) (hi:i<n) (hroom:co<n+1) (hnc:n≤co) (hC:n+1≤C) (hn:n<1048577)
 (r0:∀ ty,(Builtin.append_ #[32,3] ty #[.slice (some ⟨gg,0,none⟩) i co,.int .i64 ((n+1-i:Nat):Int)]).run Tryz.prog w = .ok (.slice (some ⟨hh,0,none⟩) (n+1) C) Wa)
 (r1:∀ ty dc sc,(Builtin.copy_ #[32,32] ty #[.slice (some ⟨hh,i*3,none⟩) (n+1-i) dc,.slice (some ⟨vb,0,none⟩) 1 sc]).run Tryz.prog Wa = .ok (goInt 1) W1)
 (r2:∀ ty dc sc,(Builtin.copy_ #[32,32] ty #[.slice (some ⟨hh,(i+1)*3,none⟩) (n-i) dc,.slice (some ⟨gg,i*3,none⟩) (n-i) sc]).run Tryz.prog W1.drew = .ok (goInt ((n-i:Nat):Int)) W2) :
 Calls Tryz.prog 178 #[.slice (some ⟨gg,0,none⟩) n co,.int .i64 i,.slice (some ⟨vb,0,none⟩) 1 cv] w fun e w'=>e = .returned (.slice (some ⟨hh,0,none⟩) (n+1) C)∧w'=W2:=by
 have mixed:Tryz.prog.follows .mixedOrders=true:=by kernel_rfl
 have hu106:=Tryz.underlying106
 have e1:((i:Int) == (n:Int))=false:=by
  rw [beq_eq_false_iff_ne]
  omega
 have q1:(0:Int)≤(i:Int):=by omega
 have q2:(i:Int)≤(n:Int):=by omega
 have q3:(i:Int)≤(co:Int):=by omega
 have w1:wrap64 ((n:Int)+1)=(n:Int)+1:=by unfold wrap64;omega
 have w2:wrap64 ((n:Int)+1-(i:Int))=((n+1-i:Nat):Int):=by unfold wrap64;omega
 have w3:IntKind.i64.wrap ((n:Int)+1-(i:Int))=((n+1-i:Nat):Int):=by rw [IntKind.wrap_i64];omega
 have e2:decide ((co:Int)<(n:Int)+1)=true:=decide_eq_true (by omega)
 have hw1:IntKind.i64.wrap ((i:Int)+1)=(i:Int)+1:=by rw [IntKind.wrap_i64];omega
 have hb1:(0:Int)≤(i:Int)+1:=by omega
 have hb0:(i:Int)+1≤(n:Int)+1:=by omega
 have htn:((i:Int)+1).toNat=i+1:=by omega
 have hb2:¬ (C=i+1):=by omega
 have hb3:(i:Int)≤(n:Int)+1:=by omega
 have hb4:¬ (C=i):=by omega
 have hb6:¬ (co=i):=by omega
 have hb5:n+1-(i+1)=n-i:=by omega
 have R0:=B0.mk r0;have R1:=B0.mk r1;have R2:=B0.mk r2;clear r0;go_enter Tryz.func178,Tryz.ntmps178;go_wp2_with ((with_reducible refine P8 (b:=.append) (xs:=#[.tmp 34,.tmp 39]) rfl ?_);at_builtin;refine IN.wp_append _ rfl _ _ 32 3 rfl _ _ rfl rfl (R0.out _) ?_)
 go_region_law_o (refine IN.step_copy rfl _ _ 32 32 rfl _ _ (by simp [Act.eval,Act.put]) (by simp [Act.eval,Act.put]) (R2.out _ _ _) ?_)
 go_wp2;go_ret;exact ⟨rfl,rfl⟩
theorem F7.tail (P0_ P1_:Nat→Prop) (A0:Option Addr) (c0:Nat) (l0:List (S106)) (vb cv:Nat) (x:S106) (w0 w:World) (hB:Below w0.heap.size w0 w) (ho0:Kd.R k106 106 w w0.heap.size P0_ (.slice A0 l0.length c0) l0) (hc2:Kd.C k106 w (some ⟨vb,0,none⟩) 1 [x]) (hl:l0.length<1048577) :
 Calls Tryz.prog 178 #[.slice A0 l0.length c0,.int .i64 (l0.length:Int),.slice (some ⟨vb,0,none⟩) 1 cv] w fun e w'=>∃ v0_:Value,e = .returned (v0_)∧Kd.R k106 106 w' w0.heap.size (fun k_=>((P0_ k_∨P1_ k_)∨w.heap.size≤k_)) v0_ (l0++[x])∧Below w0.heap.size w0 w'∧Kept w w' (fun k_=>P0_ k_∨P1_ k_):=by
 have hle:=(Kd.R_reads' ho0).2.1;have HO:=B0.mk (show Kd.R k106 106 w w0.heap.size (fun k_=>((P0_ k_∨P1_ k_)∨w.heap.size≤k_)) (.slice A0 l0.length c0) l0 from Kd.R_mono ho0 (fun k_ hk=>.inl (.inl hk)));have HP:=B0.mk ho0.1;have HC2:=B0.mk hc2;have HB:=B0.mk hB;have HL:=B0.mk hl;clear hB ho0 hc2;have q1:(0:Int)≤(l0.length:Int):=by omega
 have q2:(l0.length:Int)≤(c0:Int):=by omega
 cases A0 with
 | none=>
  go_enter Tryz.func178,Tryz.ntmps178;go_wp2_with ((with_reducible refine P8 (b:=.append) (xs:=#[.tmp 23,.tmp 24]) rfl ?_);at_builtin;refine Kd.R_append_rows k106 (w0:=w0) w0.heap.size rfl (.tmp 23) (.tmp 24) 32 106 (.agg #[(.int .i64 0),(.int .i64 0),(.int .i64 0)]) 24 rfl Tryz.underlying32 A1w rfl (by decide) (by omega) _ l0 [x] _ _ _ (fun k_=>((P0_ k_∨P1_ k_)∨w.heap.size≤k_)) (fun _=>False) rfl rfl HO.out HC2.out (fun _ _ h=>h) (fun _ h=>h.elim) (fun _ hk=>.inr hk) HB.out (G4 HB.out) (by have:=HL.out;omega) ?_;intro v1 w1 ho hb hg hat;have HO1:=B0.mk ho;have HB1:=B0.mk hb;have HG:=B0.mk hg;clear ho hb hg hat)
  go_ret;exact ⟨_,rs_,HO1.out,HB1.out,IN.kept_grown HG.out (fun k hk=>.inl (HP.out k hk))⟩
 | some a0=>
  by_cases hc:c0=l0.length
  ·
   go_enter Tryz.func178,Tryz.ntmps178;go_wp2_with ((with_reducible refine P8 (b:=.append) (xs:=#[.tmp 23,.tmp 24]) rfl ?_);at_builtin;refine Kd.R_append_rows k106 (w0:=w0) w0.heap.size rfl (.tmp 23) (.tmp 24) 32 106 (.agg #[(.int .i64 0),(.int .i64 0),(.int .i64 0)]) 24 rfl Tryz.underlying32 A1w rfl (by decide) (by omega) _ l0 [x] _ _ _ (fun k_=>((P0_ k_∨P1_ k_)∨w.heap.size≤k_)) (fun _=>False) rfl rfl HO.out HC2.out (fun _ _ h=>h) (fun _ h=>h.elim) (fun _ hk=>.inr hk) HB.out (G4 HB.out) (by have:=HL.out;omega) ?_;intro v1 w1 ho hb hg hat;have HO1:=B0.mk ho;have HB1:=B0.mk hb;have HG:=B0.mk hg;clear ho hb hg hat)
   go_ret;exact ⟨_,rs_,HO1.out,HB1.out,IN.kept_grown HG.out (fun k hk=>.inl (HP.out k hk))⟩
  ·
   go_enter Tryz.func178,Tryz.ntmps178;go_wp2_with ((with_reducible refine P8 (b:=.append) (xs:=#[.tmp 23,.tmp 24]) rfl ?_);at_builtin;refine Kd.R_append_rows k106 (w0:=w0) w0.heap.size rfl (.tmp 23) (.tmp 24) 32 106 (.agg #[(.int .i64 0),(.int .i64 0),(.int .i64 0)]) 24 rfl Tryz.underlying32 A1w rfl (by decide) (by omega) _ l0 [x] _ _ _ (fun k_=>((P0_ k_∨P1_ k_)∨w.heap.size≤k_)) (fun _=>False) rfl rfl HO.out HC2.out (fun _ _ h=>h) (fun _ h=>h.elim) (fun _ hk=>.inr hk) HB.out (G4 HB.out) (by have:=HL.out;omega) ?_;intro v1 w1 ho hb hg hat;have HO1:=B0.mk ho;have HB1:=B0.mk hb;have HG:=B0.mk hg;clear ho hb hg hat)
   go_ret;exact ⟨_,rs_,HO1.out,HB1.out,IN.kept_grown HG.out (fun k hk=>.inl (HP.out k hk))⟩
set_option maxHeartbeats 2000000 in
theorem F7.calls (P0_:Nat→Prop) (u9000_:Value) (l0:List (S106)) (a1:Int) (P1_:Nat→Prop) (u9001_:Value) (l2:List (S106)) (r:List (S106)) (w0 w:World) (hB:Below w0.heap.size w0 w) (ho0:Kd.R k106 106 w w0.heap.size P0_ u9000_ l0) (hs3:∀ k_,P0_ k_→some k_≠u9001_.ownBlock) (ho2:Kd.R k106 106 w w0.heap.size P1_ u9001_ l2) (hs5:∀ k_,P1_ k_→some k_≠u9000_.ownBlock) (h:F7.f l0 a1 l2=some r) :
 Calls Tryz.prog 178 #[u9000_,.int .i64 a1,u9001_] w fun e w'=>∃ v0_:Value,e = .returned (v0_)∧Kd.R k106 106 w' w0.heap.size (fun k_=>((P0_ k_∨P1_ k_)∨w.heap.size≤k_)) v0_ r∧Below w0.heap.size w0 w'∧Kept w w' (fun k_=>P0_ k_∨P1_ k_):=by
 unfold F7.f at h
 by_cases hg:0≤a1∧a1≤(l0.length:Int)∧l2.length=1∧l0.length<1048577
 ·
  rw [if_pos hg] at h;obtain rfl:=Option.some.inj h;clear h;obtain ⟨g1,g2,g3,g4⟩:=hg;obtain ⟨i,rfl⟩:=Int.eq_ofNat_of_zero_le g1;have g5:i≤l0.length:=by omega
  rw [Int.toNat_natCast]
  obtain ⟨x,rfl⟩:∃ x,l2=[x]:=by
   match l2,g3 with
   | [x],_=>exact ⟨x,rfl⟩
  obtain ⟨hv,hv2⟩ | ⟨vb,cv,rfl⟩:=IN.R_cases ho2
  ·
   cases hv2
  by_cases hin:i=l0.length
  ·
   subst hin;rw [List.take_length,List.drop_length,List.append_nil]
   obtain ⟨A0,c0,e0⟩:=Kd.R_slice ho0;subst e0;exact F7.tail P0_ P1_ A0 c0 l0 vb cv x w0 w hB ho0 (Kd.R_reads' ho2).2.2 g4
  ·
   obtain ⟨hv,hv2⟩ | ⟨gg,co,rfl⟩:=IN.R_cases ho0
   ·
    subst hv2;exact absurd g5 (by intro g;apply hin;simp at g;simp [g])
   obtain ⟨n1,n2,n3,n4,n5,cur,hc,hcs,S,hL⟩:=IN.R_raw F7.flat ho0;obtain ⟨m1,m2,m3,m4,m5,curv,hcv,hcvs,Sv,hLv⟩:=IN.R_raw F7.flat ho2;have hne:vb≠gg:=fun e_=>hs3 gg n5 (by rw [e_];simp [Value.ownBlock])
   have hLv':curv.toList=(fun x:S106=>([.int .i64 x.f0,.int .i64 x.f1,.int .i64 x.f2]:List Value)) x++Sv:=by simpa using hLv
   have hlen:(l0.take i++[x]++l0.drop i).length=l0.length+1:=by simp;omega
   by_cases hroom:l0.length+1≤co
   ·
    obtain ⟨W1,hW1⟩:∃ W1,W1=w.drew.setCells gg ((i+1)*3) ((l0.drop i).flatMap (fun x:S106=>([.int .i64 x.f0,.int .i64 x.f1,.int .i64 x.f2]:List Value))):=⟨_,rfl⟩;obtain ⟨W2,hW2⟩:∃ W2,W2=W1.setCells gg (i*3) ((fun x:S106=>([.int .i64 x.f0,.int .i64 x.f1,.int .i64 x.f2]:List Value)) x):=⟨_,rfl⟩;obtain ⟨r1,r2,r3,cur2,S2,r4,r5,r6⟩:=IN.insert_room (P:=Tryz.prog) F7.flat (k:=3) rfl (W:=w.drew) (x:=x) hc hcs hL g5 hroom hne hcv hLv' 32 106 Tryz.underlying32 F7.sized hW1 hW2;have rg:w.grownBy W2 (some gg):=⟨r3.os,r3.tape,r3.output,r3.size,r3.block⟩;refine (F7.room w W1 W2 gg vb l0.length i co cv (by omega) hroom g4 (fun lb cb=>F7.ov_apart (a:=⟨vb,0,none⟩) (b:=⟨gg,(i+1)*3,none⟩) hne hcv hc (by rw [hcs];exact Nat.mul_ne_zero (by omega) (by decide)) (Q6 hcv _)) r1 r2).mono ?_
    rintro e w' ⟨rfl,rfl⟩;refine ⟨_,rfl,?_,hB.grown rg (G4 hB) (fun k hk=>by cases hk;exact n4),IN.kept_grown rg (fun k hk=>by cases hk;exact .inl n5)⟩
    have hR:=IN.R_of_raw F7.flat (ok:=fun k_=>(P0_ k_∨P1_ k_)∨w.heap.size≤k_) n4 (.inl (.inl n5)) r4 (xs:=l0.take i++[x]++l0.drop i) (by omega) n3 (by rw [r5];exact hcs) r6
    rw [hlen] at hR;exact hR
   ·
    have hgl:gg<w.heap.size:=A2r hc;have hvl:vb<w.heap.size:=A2r hcv;have lT:((l0.take i).flatMap (fun x:S106=>([.int .i64 x.f0,.int .i64 x.f1,.int .i64 x.f2]:List Value))).length=i*3:=by rw [F7.flat.flen w,List.length_take,Nat.min_eq_left g5];rfl
    obtain ⟨i0,hi0,hz⟩:=Option.map_eq_some_iff.1 A1w;simp only [Prod.mk.injEq] at hz
    have hrun:=fun ty=>IN.run_grow (P:=Tryz.prog) w 32 3 ty 106 i0 (.agg #[(.int .i64 0),(.int .i64 0),(.int .i64 0)]) 3 24 Tryz.underlying32 Tryz.underlying3 hi0 hz.1 hz.2.1 hz.2.2 rfl (by decide) (by decide) (some ⟨gg,0,none⟩) i co ((l0.take i).flatMap (fun x:S106=>([.int .i64 x.f0,.int .i64 x.f1,.int .i64 x.f2]:List Value))) lT (fun h=>by cases h)
     (fun a ha j u hj=>by
      cases ha;rw [Addr.add_lit,Nat.zero_add,cell_of_row w gg j cur 106 (0,0) hc,← Array.getElem?_toList,hL]
      have hx:l0=l0.take i++l0.drop i:=(List.take_append_drop i l0).symm;rw [hx,List.flatMap_append,List.append_assoc,List.getElem?_append_left (List.getElem?_eq_some_iff.1 hj).1,hj]) .i64 (l0.length+1-i) (by omega) (by omega) (by omega)
    have hin1:i+(l0.length+1-i)=l0.length+1:=by omega
    rw [hin1] at hrun;obtain ⟨C,hCe⟩:∃ C,C=grownCap w (l0.length+1) co 106:=⟨_,rfl⟩;rw [← hCe] at hrun;have hC1:l0.length+1≤C:=by rw [hCe];exact grownCap_ge w _ _ _
    have hC2:C≤maxLen:=by rw [hCe];exact grownCap_le_maxLen w _ _ _ (by unfold maxLen;omega)
    obtain ⟨Wa,hWa⟩:∃ Wa,Wa=w.drew.alloc (.cells (((l0.take i).flatMap (fun x:S106=>([.int .i64 x.f0,.int .i64 x.f1,.int .i64 x.f2]:List Value))).toArray++Builtin.zeroCells (Value.agg #[Value.int .i64 0,Value.int .i64 0,Value.int .i64 0]).cells (l0.length+1-i)++Builtin.zeroCells (Value.agg #[Value.int .i64 0,Value.int .i64 0,Value.int .i64 0]).cells (C-(l0.length+1))) 106):=⟨_,rfl⟩;rw [← hWa] at hrun
    have ha1:w.grownBy Wa none:=by
     have q:=World.grownBy_alloc w.drew (.cells (((l0.take i).flatMap (fun x:S106=>([.int .i64 x.f0,.int .i64 x.f1,.int .i64 x.f2]:List Value))).toArray++Builtin.zeroCells (Value.agg #[Value.int .i64 0,Value.int .i64 0,Value.int .i64 0]).cells (l0.length+1-i)++Builtin.zeroCells (Value.agg #[Value.int .i64 0,Value.int .i64 0,Value.int .i64 0]).cells (C-(l0.length+1))) 106) none;rw [← hWa] at q;exact ⟨q.os,q.tape,q.output,q.size,q.block⟩
    have hca:Wa.heap[gg]? = some (.cells cur 106 (0,0)):=(ha1.block gg hgl (by simp)).trans hc
    have hcva:Wa.heap[vb]? = some (.cells curv 106 (0,0)):=(ha1.block vb hvl (by simp)).trans hcv
    have hha:Wa.heap[w.heap.size]? = some (.cells (((l0.take i).flatMap (fun x:S106=>([.int .i64 x.f0,.int .i64 x.f1,.int .i64 x.f2]:List Value))).toArray++Builtin.zeroCells (Value.agg #[Value.int .i64 0,Value.int .i64 0,Value.int .i64 0]).cells (l0.length+1-i)++Builtin.zeroCells (Value.agg #[Value.int .i64 0,Value.int .i64 0,Value.int .i64 0]).cells (C-(l0.length+1))) 106 (0,0)):=by
     rw [hWa]
     exact Array.getElem?_push_size
    obtain ⟨W1,hW1⟩:∃ W1,W1=Wa.setCells w.heap.size (i*3) ((fun x:S106=>([.int .i64 x.f0,.int .i64 x.f1,.int .i64 x.f2]:List Value)) x):=⟨_,rfl⟩;obtain ⟨W2,hW2⟩:∃ W2,W2=W1.drew.setCells w.heap.size ((i+1)*3) ((l0.drop i).flatMap (fun x:S106=>([.int .i64 x.f0,.int .i64 x.f1,.int .i64 x.f2]:List Value))):=⟨_,rfl⟩;have zl:∀ m,(Builtin.zeroCells (Value.agg #[Value.int .i64 0,Value.int .i64 0,Value.int .i64 0]).cells m).toList.length=m*3:=fun m=>by simp [Builtin.zeroCells,Value.cells]
    obtain ⟨r1,r2,cur2,r4,r5,r6⟩:=IN.insert_grow (P:=Tryz.prog) F7.flat (k:=3) rfl (Wa:=Wa) (Wd:=W1.drew) (x:=x) hca hL hha (Z:=(Builtin.zeroCells (Value.agg #[Value.int .i64 0,Value.int .i64 0,Value.int .i64 0]).cells (l0.length+1-i)).toList) (Z':=(Builtin.zeroCells (Value.agg #[Value.int .i64 0,Value.int .i64 0,Value.int .i64 0]).cells (C-(l0.length+1))).toList) (by simp) (zl _) g5 (by omega) hcva hLv' 32 106 Tryz.underlying32 F7.sized hW1 rfl hW2
    have hg1:Wa.grownBy W1 (some w.heap.size):=by rw [hW1];exact IN.grown_set _ _
    have hg2:W1.grownBy W2 (some w.heap.size):=by
     have q:=IN.grown_set (W:=W1.drew) (g:=w.heap.size) ((l0.drop i).flatMap (fun x:S106=>([.int .i64 x.f0,.int .i64 x.f1,.int .i64 x.f2]:List Value))) ((i+1)*3);rw [← hW2] at q;exact ⟨q.os,q.tape,q.output,q.size,q.block⟩
    have rg:w.grownBy W2 none:=⟨hg2.os.trans (hg1.os.trans ha1.os),hg2.tape.trans (hg1.tape.trans ha1.tape),hg2.output.trans (hg1.output.trans ha1.output),Nat.le_trans ha1.size (Nat.le_trans hg1.size hg2.size),fun k hk _=>(hg2.block k (Nat.lt_of_lt_of_le hk (Nat.le_trans ha1.size hg1.size)) (by simp;omega)).trans ((hg1.block k (Nat.lt_of_lt_of_le hk ha1.size) (by simp;omega)).trans (ha1.block k hk (by simp)))⟩
    refine (F7.grow w Wa W1 W2 gg vb w.heap.size l0.length i co cv C (by omega) (by omega) n2 hC1 g4 hrun r1 r2).mono ?_
    rintro e w' ⟨rfl,rfl⟩;refine ⟨_,rfl,?_,hB.grown rg (G4 hB) (fun k hk=>by cases hk),IN.kept_grown rg (fun k hk=>by cases hk)⟩
    have hR:=IN.R_of_raw F7.flat (ok:=fun k_=>(P0_ k_∨P1_ k_)∨w.heap.size≤k_) (G4 hB) (.inr (Nat.le_refl _)) r4 (xs:=l0.take i++[x]++l0.drop i) (c:=C) (by omega) hC2 (by
     rw [r5,← Array.length_toList]
     simp only [Array.toList_append,List.length_append,zl,lT]
     show i*3+(l0.length+1-i)*3+(C-(l0.length+1))*3=C*3
     omega) r6
    rw [hlen] at hR;exact hR
 ·
  rw [if_neg hg] at h;cases h
theorem T7.calls (k:Nat) (A0:Option Addr) (c0:Nat) (l0:List (S106)) (a1:Int) (a2:Int) (a3:Int) (r:List (S106)) (w:World) (hr0:Kd.C k106 w A0 l0.length l0) (hc0:l0.length≤c0) (h:T7.f k l0 a1 a2 a3=some r) :
 Calls Tryz.prog 157 #[.slice A0 l0.length c0,.int .i64 a1,.int .i64 a2,.int .i64 a3] w fun e w'=>∃ v0_:Value,e = .returned (v0_)∧Kd.R k106 106 w' w.heap.size (fun _=>True) v0_ r∧Below w.heap.size w w':=by
 have hu106:=Tryz.underlying106;have HR0:=B0.mk hr0;have HC0:=B0.mk hc0;clear hr0 hc0;have HB:=B0.mk (Below.refl w.heap.size w);have H:((O2.f l0).bind fun t1425=>((M0.f k l0 a1 a2).bind fun bt1428=>(if bt1428.2=true then ((O0.f t1425 bt1428.1 (wrap64 (bt1428.1+1))).bind fun t1430=>(if a3=0 then (some t1430) else ((F7.f t1430 bt1428.1 (([(⟨a1,a2,a3⟩:S106)]:List (S106)))).bind fun t1436=>(some t1436)))) else (if a3=0 then (some t1425) else ((F7.f t1425 bt1428.1 (([(⟨a1,a2,a3⟩:S106)]:List (S106)))).bind fun t1442=>(some t1442))))))=some r:=h;clear h;replace H:=Option.bind_eq_some_iff.mp H;obtain ⟨t1425,A50,H⟩:=H;have A5:=B0.mk A50;clear A50;replace H:=Option.bind_eq_some_iff.mp H;obtain ⟨⟨t1428,t1429⟩,A60,H⟩:=H;replace H:(if t1429=true then ((O0.f t1425 t1428 (wrap64 (t1428+1))).bind fun t1430=>(if a3=0 then (some t1430) else ((F7.f t1430 t1428 (([(⟨a1,a2,a3⟩:S106)]:List (S106)))).bind fun t1436=>(some t1436)))) else (if a3=0 then (some t1425) else ((F7.f t1425 t1428 (([(⟨a1,a2,a3⟩:S106)]:List (S106)))).bind fun t1442=>(some t1442))))=some r:=H;have A6:=B0.mk A60;clear A60
 by_cases c7:t1429=true
 ·
  subst c7;replace H:=Eq.trans (if_pos rfl).symm H;replace H:=Option.bind_eq_some_iff.mp H;obtain ⟨t1430,A80,H⟩:=H;have A8:=B0.mk A80;clear A80
  by_cases c9:a3=0
  ·
   rw [if_pos c9] at H;have c9b0:(a3 == 0)=true:=beq_iff_eq.mpr c9;have c9b1:(a3 != 0)=false:=bne_eq_false_iff_eq.mpr c9;clear c9;obtain rfl:=Option.some.inj H;go_enter Tryz.func157,Tryz.ntmps157
   go_wp2_with (first | ((with_reducible refine M3 (f:=99) rfl ?_);refine V6 (some 13) rfl rfl Tryz.func99 kr_ rfl #[.slice A0 l0.length c0] rfl (bc_) ?_;(with_reducible refine (O2.calls _ _ l0 t1425 _ ?side1 ?side2 A5.out).mono ?_);(case side1=>exact cc_ HR0.out);(case side2=>exact HC0.out);rintro e w10 ⟨v1426,rfl,ho0,hb⟩;refine ⟨_,rfl,?_⟩;have n_:=as2_ (Kd.R_lower ho0 (G4 (bb_))) (D0 (bb_) hb);clear HB;obtain ⟨HO1427,HB⟩:=n_;(try clear hb);(try clear ho0)) | ((with_reducible refine M3 (f:=172) rfl ?_);refine V6 (some 18) rfl rfl Tryz.func172 kr_ rfl #[.slice A0 l0.length c0,.int .i64 a1,.int .i64 a2] rfl (bc_) ?_;(with_reducible refine (M0.calls k _ _ l0 a1 a2 t1428 true _ ?side1 ?side2 A6.out).mono ?_);(case side1=>exact cc_ (Kd.C_below HR0.out HB.out));(case side2=>exact HC0.out);rintro e w11 ⟨rfl,hb⟩;refine ⟨_,rfl,?_⟩;have n_:=as2_ (Kd.R_below (pe_ HO1427.out) hb) (D0 (bb_) hb);clear HO1427 HB;obtain ⟨HO1427,HB⟩:=n_;(try clear hb);obtain ⟨Ao12,co12,eo12⟩:=Kd.R_slice HO1427.out;subst eo12) | ((with_reducible refine M3 (f:=177) rfl ?_);refine V6 (some 26) rfl rfl Tryz.func177 kr_ rfl #[.slice Ao12 t1425.length co12,.int .i64 t1428,.int .i64 (wrap64 (t1428+1))] rfl (bc_) ?_;(with_reducible refine (O0.calls (fun k_=>some k_=(.slice Ao12 t1425.length co12:Value).ownBlock) (.slice Ao12 t1425.length co12) t1425 t1428 (wrap64 (t1428+1)) t1430 w _ ?side1 ?side2 A8.out).mono ?_);(case side1=>repeat (first | (with_reducible first | exact HB.out | apply I8 | apply Q2 | apply Q5) | exact HB.out));(case side2=>exact Kd.R_tight rfl HO1427.out);rintro e w13 ⟨v1431,rfl,ho0,hb,hkp⟩;refine ⟨_,rfl,?_⟩;have n_:=as2_ (Kd.R_mono (ok':=fun k_=>True) ho0 (fun k_ hk_=>trivial)) (hb);clear HB HO1427;obtain ⟨HO1432,HB⟩:=n_;(try clear hb);(try clear hkp);(try clear ho0)))
   go_ret;exact ⟨_,er_,pe_ HO1432.out,bb_⟩
  ·
   rw [if_neg c9] at H;have c9b0:(a3 == 0)=false:=beq_eq_false_iff_ne.mpr c9;have c9b1:(a3 != 0)=true:=bne_iff_ne.mpr c9;obtain ⟨y1433,hy1433⟩:∃ y_:List (S106),y_=(([(⟨a1,a2,a3⟩:S106)]:List (S106))):=⟨_,rfl⟩;replace H:((F7.f t1430 t1428 y1433).bind fun t1436=>(some t1436))=some r:=rh_ hy1433 H;have Ny1433:=B0.mk hy1433;clear hy1433;replace H:=Option.bind_eq_some_iff.mp H;obtain ⟨t1436,A140,H⟩:=H;have A14:=B0.mk A140;clear A140;obtain rfl:=Option.some.inj H;go_enter Tryz.func157,Tryz.ntmps157
   go_wp2_with (first | ((with_reducible refine M3 (f:=99) rfl ?_);refine V6 (some 13) rfl rfl Tryz.func99 kr_ rfl #[.slice A0 l0.length c0] rfl (bc_) ?_;(with_reducible refine (O2.calls _ _ l0 t1425 _ ?side1 ?side2 A5.out).mono ?_);(case side1=>exact cc_ HR0.out);(case side2=>exact HC0.out);rintro e w15 ⟨v1426,rfl,ho0,hb⟩;refine ⟨_,rfl,?_⟩;have n_:=as2_ (Kd.R_lower ho0 (G4 (bb_))) (D0 (bb_) hb);clear HB;obtain ⟨HO1427,HB⟩:=n_;(try clear hb);(try clear ho0)) | ((with_reducible refine M3 (f:=172) rfl ?_);refine V6 (some 18) rfl rfl Tryz.func172 kr_ rfl #[.slice A0 l0.length c0,.int .i64 a1,.int .i64 a2] rfl (bc_) ?_;(with_reducible refine (M0.calls k _ _ l0 a1 a2 t1428 true _ ?side1 ?side2 A6.out).mono ?_);(case side1=>exact cc_ (Kd.C_below HR0.out HB.out));(case side2=>exact HC0.out);rintro e w16 ⟨rfl,hb⟩;refine ⟨_,rfl,?_⟩;have n_:=as2_ (Kd.R_below (pe_ HO1427.out) hb) (D0 (bb_) hb);clear HO1427 HB;obtain ⟨HO1427,HB⟩:=n_;(try clear hb);obtain ⟨Ao17,co17,eo17⟩:=Kd.R_slice HO1427.out;subst eo17) | ((with_reducible refine M3 (f:=177) rfl ?_);refine V6 (some 26) rfl rfl Tryz.func177 kr_ rfl #[.slice Ao17 t1425.length co17,.int .i64 t1428,.int .i64 (wrap64 (t1428+1))] rfl (bc_) ?_;(with_reducible refine (O0.calls (fun k_=>some k_=(.slice Ao17 t1425.length co17:Value).ownBlock) (.slice Ao17 t1425.length co17) t1425 t1428 (wrap64 (t1428+1)) t1430 w _ ?side1 ?side2 A8.out).mono ?_);(case side1=>repeat (first | (with_reducible first | exact HB.out | apply I8 | apply Q2 | apply Q5) | exact HB.out));(case side2=>exact Kd.R_tight rfl HO1427.out);rintro e w18 ⟨v1431,rfl,ho0,hb,hkp⟩;refine ⟨_,rfl,?_⟩;have n_:=as2_ (Kd.R_mono (ok':=fun k_=>True) ho0 (fun k_ hk_=>trivial)) (hb);clear HB HO1427;obtain ⟨HO1432,HB⟩:=n_;(try clear hb);(try clear hkp);(try clear ho0)) | ((with_reducible refine P7 (N:=35) rfl ?_);refine Kd.R_lit k106 _ 106 ?hg (N:=35) ?hd (xs:=([(⟨a1,a2,a3⟩:S106)]:List (S106))) (inner:=[.int .i64 a1,.int .i64 a2,.int .i64 a3]) (ok:=fun _=>True) (okp:=fun _=>True) ?hr ?hp (fun _ hk=>hk) trivial (Below.refl _ _) (Nat.le_refl _) (by simp) ?_;(case hd=>rfl);(case hg=>rfl);(case hr=>first | (go_simp;done) | (go_simp;rfl));(case hp=>exact (Reps.c3 (show Kd.M k106 _ _ _ (⟨a1,a2,a3⟩:S106) [.int .i64 a1,.int .i64 a2,.int .i64 a3] from (A4a _ _ _ (⟨a1,a2,a3⟩:S106) )) (Reps.none _ _)));intro v1434 w19 ho20 hb hg_ hnew_;clear hg_ hnew_;(first | rw [← Ny1433.out] at ho20 | (simp only [Int.reduceToNat] at ho20;rw [← Ny1433.out] at ho20));have n_:=as3_ (Kd.R_elder' (pe_ HO1432.out) (Kd.R_base ho20) hb) (Kd.R_lower (Kd.R_new' ho20 (Kd.R_lt (pe_ HO1432.out))) (G4 (bb_))) (D0 (bb_) hb);clear HO1432 HB;obtain ⟨HO1432,HO1435,HB⟩:=n_;clear hb ho20;obtain ⟨Ao21,co21,eo21⟩:=Kd.R_slice HO1432.out;subst eo21;obtain ⟨Ao22,co22,eo22⟩:=Kd.R_slice HO1435.out;subst eo22) | ((with_reducible refine M3 (f:=178) rfl ?_);refine V6 (some 36) rfl rfl Tryz.func178 kr_ rfl #[.slice Ao21 t1430.length co21,.int .i64 t1428,.slice Ao22 y1433.length co22] rfl (bc_) ?_;(with_reducible refine (F7.calls (fun k_=>some k_=(.slice Ao21 t1430.length co21:Value).ownBlock) (.slice Ao21 t1430.length co21) t1430 t1428 (fun k_=>some k_=(.slice Ao22 y1433.length co22:Value).ownBlock) (.slice Ao22 y1433.length co22) y1433 t1436 w _ ?side1 ?side2 ?side3 ?side4 ?side5 A14.out).mono ?_);(case side1=>repeat (first | (with_reducible first | exact HB.out | apply I8 | apply Q2 | apply Q5) | exact HB.out));(case side2=>exact Kd.R_tight rfl HO1432.out);(case side3=>exact fun k_ e_=>(HO1432.out.1 k_ e_.symm).2);(case side4=>exact Kd.R_tight rfl HO1435.out);(case side5=>exact fun k_ e_=>(HO1435.out.1 k_ e_.symm).2);rintro e w23 ⟨v1437,rfl,ho0,hb,hkp⟩;refine ⟨_,rfl,?_⟩;have n_:=as2_ (Kd.R_mono (ok':=fun k_=>True) ho0 (fun k_ hk_=>trivial)) (hb);clear HB HO1432 HO1435;obtain ⟨HO1438,HB⟩:=n_;(try clear hb);(try clear hkp);(try clear ho0)))
   go_ret;exact ⟨_,er_,pe_ HO1438.out,bb_⟩
 ·
  replace c7:=Bool.eq_false_iff.mpr c7;subst c7;replace H:=Eq.trans (if_neg nf_).symm H
  by_cases c24:a3=0
  ·
   rw [if_pos c24] at H;have c24b0:(a3 == 0)=true:=beq_iff_eq.mpr c24;have c24b1:(a3 != 0)=false:=bne_eq_false_iff_eq.mpr c24;clear c24;obtain rfl:=Option.some.inj H;go_enter Tryz.func157,Tryz.ntmps157;go_wp2_with (first | ((with_reducible refine M3 (f:=99) rfl ?_);refine V6 (some 13) rfl rfl Tryz.func99 kr_ rfl #[.slice A0 l0.length c0] rfl (bc_) ?_;(with_reducible refine (O2.calls _ _ l0 t1425 _ ?side1 ?side2 A5.out).mono ?_);(case side1=>exact cc_ HR0.out);(case side2=>exact HC0.out);rintro e w25 ⟨v1426,rfl,ho0,hb⟩;refine ⟨_,rfl,?_⟩;have n_:=as2_ (Kd.R_lower ho0 (G4 (bb_))) (D0 (bb_) hb);clear HB;obtain ⟨HO1427,HB⟩:=n_;(try clear hb);(try clear ho0)) | ((with_reducible refine M3 (f:=172) rfl ?_);refine V6 (some 18) rfl rfl Tryz.func172 kr_ rfl #[.slice A0 l0.length c0,.int .i64 a1,.int .i64 a2] rfl (bc_) ?_;(with_reducible refine (M0.calls k _ _ l0 a1 a2 t1428 false _ ?side1 ?side2 A6.out).mono ?_);(case side1=>exact cc_ (Kd.C_below HR0.out HB.out));(case side2=>exact HC0.out);rintro e w26 ⟨rfl,hb⟩;refine ⟨_,rfl,?_⟩;have n_:=as2_ (Kd.R_below (pe_ HO1427.out) hb) (D0 (bb_) hb);clear HO1427 HB;obtain ⟨HO1427,HB⟩:=n_;(try clear hb)))
   go_ret;exact ⟨_,er_,pe_ HO1427.out,bb_⟩
  ·
   rw [if_neg c24] at H;have c24b0:(a3 == 0)=false:=beq_eq_false_iff_ne.mpr c24;have c24b1:(a3 != 0)=true:=bne_iff_ne.mpr c24;obtain ⟨y1439,hy1439⟩:∃ y_:List (S106),y_=(([(⟨a1,a2,a3⟩:S106)]:List (S106))):=⟨_,rfl⟩;replace H:((F7.f t1425 t1428 y1439).bind fun t1442=>(some t1442))=some r:=rh_ hy1439 H;have Ny1439:=B0.mk hy1439;clear hy1439;replace H:=Option.bind_eq_some_iff.mp H;obtain ⟨t1442,A270,H⟩:=H;have A27:=B0.mk A270;clear A270;obtain rfl:=Option.some.inj H;go_enter Tryz.func157,Tryz.ntmps157
   go_wp2_with (first | ((with_reducible refine M3 (f:=99) rfl ?_);refine V6 (some 13) rfl rfl Tryz.func99 kr_ rfl #[.slice A0 l0.length c0] rfl (bc_) ?_;(with_reducible refine (O2.calls _ _ l0 t1425 _ ?side1 ?side2 A5.out).mono ?_);(case side1=>exact cc_ HR0.out);(case side2=>exact HC0.out);rintro e w28 ⟨v1426,rfl,ho0,hb⟩;refine ⟨_,rfl,?_⟩;have n_:=as2_ (Kd.R_lower ho0 (G4 (bb_))) (D0 (bb_) hb);clear HB;obtain ⟨HO1427,HB⟩:=n_;(try clear hb);(try clear ho0)) | ((with_reducible refine M3 (f:=172) rfl ?_);refine V6 (some 18) rfl rfl Tryz.func172 kr_ rfl #[.slice A0 l0.length c0,.int .i64 a1,.int .i64 a2] rfl (bc_) ?_;(with_reducible refine (M0.calls k _ _ l0 a1 a2 t1428 false _ ?side1 ?side2 A6.out).mono ?_);(case side1=>exact cc_ (Kd.C_below HR0.out HB.out));(case side2=>exact HC0.out);rintro e w29 ⟨rfl,hb⟩;refine ⟨_,rfl,?_⟩;have n_:=as2_ (Kd.R_below (pe_ HO1427.out) hb) (D0 (bb_) hb);clear HO1427 HB;obtain ⟨HO1427,HB⟩:=n_;(try clear hb)) | ((with_reducible refine P7 (N:=35) rfl ?_);refine Kd.R_lit k106 _ 106 ?hg (N:=35) ?hd (xs:=([(⟨a1,a2,a3⟩:S106)]:List (S106))) (inner:=[.int .i64 a1,.int .i64 a2,.int .i64 a3]) (ok:=fun _=>True) (okp:=fun _=>True) ?hr ?hp (fun _ hk=>hk) trivial (Below.refl _ _) (Nat.le_refl _) (by simp) ?_;(case hd=>rfl);(case hg=>rfl);(case hr=>first | (go_simp;done) | (go_simp;rfl));(case hp=>exact (Reps.c3 (show Kd.M k106 _ _ _ (⟨a1,a2,a3⟩:S106) [.int .i64 a1,.int .i64 a2,.int .i64 a3] from (A4a _ _ _ (⟨a1,a2,a3⟩:S106) )) (Reps.none _ _)));intro v1440 w30 ho31 hb hg_ hnew_;clear hg_ hnew_;(first | rw [← Ny1439.out] at ho31 | (simp only [Int.reduceToNat] at ho31;rw [← Ny1439.out] at ho31));have n_:=as3_ (Kd.R_elder' (pe_ HO1427.out) (Kd.R_base ho31) hb) (Kd.R_lower (Kd.R_new' ho31 (Kd.R_lt (pe_ HO1427.out))) (G4 (bb_))) (D0 (bb_) hb);clear HO1427 HB;obtain ⟨HO1427,HO1441,HB⟩:=n_;clear hb ho31;obtain ⟨Ao32,co32,eo32⟩:=Kd.R_slice HO1427.out;subst eo32;obtain ⟨Ao33,co33,eo33⟩:=Kd.R_slice HO1441.out;subst eo33) | ((with_reducible refine M3 (f:=178) rfl ?_);refine V6 (some 36) rfl rfl Tryz.func178 kr_ rfl #[.slice Ao32 t1425.length co32,.int .i64 t1428,.slice Ao33 y1439.length co33] rfl (bc_) ?_;(with_reducible refine (F7.calls (fun k_=>some k_=(.slice Ao32 t1425.length co32:Value).ownBlock) (.slice Ao32 t1425.length co32) t1425 t1428 (fun k_=>some k_=(.slice Ao33 y1439.length co33:Value).ownBlock) (.slice Ao33 y1439.length co33) y1439 t1442 w _ ?side1 ?side2 ?side3 ?side4 ?side5 A27.out).mono ?_);(case side1=>repeat (first | (with_reducible first | exact HB.out | apply I8 | apply Q2 | apply Q5) | exact HB.out));(case side2=>exact Kd.R_tight rfl HO1427.out);(case side3=>exact fun k_ e_=>(HO1427.out.1 k_ e_.symm).2);(case side4=>exact Kd.R_tight rfl HO1441.out);(case side5=>exact fun k_ e_=>(HO1441.out.1 k_ e_.symm).2);rintro e w34 ⟨v1443,rfl,ho0,hb,hkp⟩;refine ⟨_,rfl,?_⟩;have n_:=as2_ (Kd.R_mono (ok':=fun k_=>True) ho0 (fun k_ hk_=>trivial)) (hb);clear HB HO1427 HO1441;obtain ⟨HO1444,HB⟩:=n_;(try clear hb);(try clear hkp);(try clear ho0)))
   go_ret;exact ⟨_,er_,pe_ HO1444.out,bb_⟩
theorem G7.flat:IN.Flat k110 (fun x:S110=>([.int .i64 x.f0,.int .i64 x.f1,.int .i64 x.f2,.int .i64 x.f3,.int .i64 x.f4]:List Value)):=⟨fun h=>A4p h,fun w base ok x=>A1a w base ok x,fun h=>A3z h⟩
theorem G7.ov_size (W:World):(Go.sizeOf 110).run Tryz.prog W = .ok 5 W:=by
 obtain ⟨i0,hi,hz⟩:=Option.map_eq_some_iff.1 A1v;simp only [Prod.mk.injEq] at hz;simp [Go.sizeOf,typeInfo,hi,hz.2.1]
theorem G7.ov_find:Extern.find Tryz.f180=some (Extern.SlicesOverlaps.overlaps #[33,33] #[4]):=by kernel_rfl
theorem G7.ov_run (args:Array Value) (w:World):(callFunc 180 args).run Tryz.prog w=((Extern.SlicesOverlaps.overlaps #[33,33] #[4] args).run Tryz.prog w).andThen fun v w'=>.ok (.value v) w':=
 run_callFunc_extern Tryz.func180 kr_ kr_ kr_ G7.ov_find args w
theorem G7.ov_apart {w:World} {a b:Addr} {la ca lb cb:Nat} (hne:a.block≠b.block) {curv cur:Array Value} (hcv:w.heap[a.block]? = some (.cells curv 110 (0,0))) (hc:w.heap[b.block]? = some (.cells cur 110 (0,0))) (h0:cur.size≠0) (hf:w.frozen? a=false) :
 (callFunc 180 #[.slice (some a) la ca,.slice (some b) lb cb]).run Tryz.prog w = .ok (.value (.bool false)) w:=by
 have h:=Lib.run_overlaps_apart w 33 4 110 Tryz.underlying33 5 G7.ov_size a b la ca lb cb hne 110 110 curv.size cur.size (by simp [World.shape?,hcv]) (by simp [World.shape?,hc]) h0 hf (Q6 hcv _)
 rw [G7.ov_run,h]
 rfl
theorem G7.sized:(Tryz.prog.info? 110).map (·.size)=some 5:=by
 obtain ⟨i0,hi,hz⟩:=Option.map_eq_some_iff.1 A1v;simp only [Prod.mk.injEq] at hz;rw [hi,Option.map_some,hz.2.1]
theorem G7.room (w W1 W2:World) (gg vb n i co cv:Nat) (hi:i<n) (hroom:n+1≤co) (hn:n<1048577)
 (hov:∀ lb cb,(callFunc 180 #[.slice (some ⟨vb,0,none⟩) 1 cv,.slice (some ⟨gg,(i+1)*5,none⟩) lb cb]).run Tryz.prog w = .ok (.value (.bool false)) w)
 (r1:∀ ty dc sc,(Builtin.copy_ #[33,33] ty #[.slice (some ⟨gg,(i+1)*5,none⟩) (n-i) dc,.slice (some ⟨gg,i*5,none⟩) (n+1-i) sc]).run Tryz.prog w.drew = .ok (goInt ((n-i:Nat):Int)) W1)
 (r2:∀ ty dc sc,(Builtin.copy_ #[33,33] ty #[.slice (some ⟨gg,i*5,none⟩) (n+1-i) dc,.slice (some ⟨vb,0,none⟩) 1 sc]).run Tryz.prog W1 = .ok (goInt 1) W2) :
 Calls Tryz.prog 159 #[.slice (some ⟨gg,0,none⟩) n co,.int .i64 i,.slice (some ⟨vb,0,none⟩) 1 cv] w fun e w'=>e = .returned (.slice (some ⟨gg,0,none⟩) (n+1) co)∧w'=W2:=by
 have mixed:Tryz.prog.follows .mixedOrders=true:=by kernel_rfl
 have hu110:=Tryz.underlying110
 have e1:((i:Int) == (n:Int))=false:=by
  rw [beq_eq_false_iff_ne]
  omega
 have q1:(0:Int)≤(i:Int):=by omega
 have q2:(i:Int)≤(n:Int):=by omega
 have w1:wrap64 ((n:Int)+1)=(n:Int)+1:=by unfold wrap64;omega
 have e2:decide ((co:Int)<(n:Int)+1)=false:=decide_eq_false (by omega)
 have hw1:IntKind.i64.wrap ((i:Int)+1)=(i:Int)+1:=by rw [IntKind.wrap_i64];omega
 have hb1:(0:Int)≤(i:Int)+1:=by omega
 have hb0:(i:Int)+1≤(n:Int)+1:=by omega
 have htn:((i:Int)+1).toNat=i+1:=by omega
 have hb2:¬ (co=i+1):=by omega
 have hb3:(i:Int)≤(n:Int)+1:=by omega
 have hb4:¬ (co=i):=by omega
 have hb5:n+1-(i+1)=n-i:=by omega
 have R1:=B0.mk r1;have R2:=B0.mk r2;go_enter Tryz.func159,Tryz.ntmps159;go_wp2_with (simp only [hov])
 go_region_law_o (refine IN.step_copy rfl _ _ 33 33 rfl _ _ (by simp [Act.eval,Act.put]) (by simp [Act.eval,Act.put]) (R1.out _ _ _) ?_)
 go_wp2;go_ret;exact ⟨rfl,rfl⟩
theorem G7.grow (w Wa W1 W2:World) (gg vb hh n i co cv C:Nat) (hi:i<n) (hroom:co<n+1) (hnc:n≤co) (hC:n+1≤C) (hn:n<1048577)
 (r0:∀ ty,(Builtin.append_ #[33,3] ty #[.slice (some ⟨gg,0,none⟩) i co,.int .i64 ((n+1-i:Nat):Int)]).run Tryz.prog w = .ok (.slice (some ⟨hh,0,none⟩) (n+1) C) Wa)
 (r1:∀ ty dc sc,(Builtin.copy_ #[33,33] ty #[.slice (some ⟨hh,i*5,none⟩) (n+1-i) dc,.slice (some ⟨vb,0,none⟩) 1 sc]).run Tryz.prog Wa = .ok (goInt 1) W1)
 (r2:∀ ty dc sc,(Builtin.copy_ #[33,33] ty #[.slice (some ⟨hh,(i+1)*5,none⟩) (n-i) dc,.slice (some ⟨gg,i*5,none⟩) (n-i) sc]).run Tryz.prog W1.drew = .ok (goInt ((n-i:Nat):Int)) W2) :
 Calls Tryz.prog 159 #[.slice (some ⟨gg,0,none⟩) n co,.int .i64 i,.slice (some ⟨vb,0,none⟩) 1 cv] w fun e w'=>e = .returned (.slice (some ⟨hh,0,none⟩) (n+1) C)∧w'=W2:=by
 have mixed:Tryz.prog.follows .mixedOrders=true:=by kernel_rfl
 have hu110:=Tryz.underlying110
 have e1:((i:Int) == (n:Int))=false:=by
  rw [beq_eq_false_iff_ne]
  omega
 have q1:(0:Int)≤(i:Int):=by omega
 have q2:(i:Int)≤(n:Int):=by omega
 have q3:(i:Int)≤(co:Int):=by omega
 have w1:wrap64 ((n:Int)+1)=(n:Int)+1:=by unfold wrap64;omega
 have w2:wrap64 ((n:Int)+1-(i:Int))=((n+1-i:Nat):Int):=by unfold wrap64;omega
 have w3:IntKind.i64.wrap ((n:Int)+1-(i:Int))=((n+1-i:Nat):Int):=by rw [IntKind.wrap_i64];omega
 have e2:decide ((co:Int)<(n:Int)+1)=true:=decide_eq_true (by omega)
 have hw1:IntKind.i64.wrap ((i:Int)+1)=(i:Int)+1:=by rw [IntKind.wrap_i64];omega
 have hb1:(0:Int)≤(i:Int)+1:=by omega
 have hb0:(i:Int)+1≤(n:Int)+1:=by omega
 have htn:((i:Int)+1).toNat=i+1:=by omega
 have hb2:¬ (C=i+1):=by omega
 have hb3:(i:Int)≤(n:Int)+1:=by omega
 have hb4:¬ (C=i):=by omega
 have hb6:¬ (co=i):=by omega
 have hb5:n+1-(i+1)=n-i:=by omega
 have R0:=B0.mk r0;have R1:=B0.mk r1;have R2:=B0.mk r2;clear r0;go_enter Tryz.func159,Tryz.ntmps159;go_wp2_with ((with_reducible refine P8 (b:=.append) (xs:=#[.tmp 34,.tmp 39]) rfl ?_);at_builtin;refine IN.wp_append _ rfl _ _ 33 3 rfl _ _ rfl rfl (R0.out _) ?_)
 go_region_law_o (refine IN.step_copy rfl _ _ 33 33 rfl _ _ (by simp [Act.eval,Act.put]) (by simp [Act.eval,Act.put]) (R2.out _ _ _) ?_)
 go_wp2;go_ret;exact ⟨rfl,rfl⟩
theorem G7.tail (P0_ P1_:Nat→Prop) (A0:Option Addr) (c0:Nat) (l0:List (S110)) (vb cv:Nat) (x:S110) (w0 w:World) (hB:Below w0.heap.size w0 w) (ho0:Kd.R k110 110 w w0.heap.size P0_ (.slice A0 l0.length c0) l0) (hc2:Kd.C k110 w (some ⟨vb,0,none⟩) 1 [x]) (hl:l0.length<1048577) :
 Calls Tryz.prog 159 #[.slice A0 l0.length c0,.int .i64 (l0.length:Int),.slice (some ⟨vb,0,none⟩) 1 cv] w fun e w'=>∃ v0_:Value,e = .returned (v0_)∧Kd.R k110 110 w' w0.heap.size (fun k_=>((P0_ k_∨P1_ k_)∨w.heap.size≤k_)) v0_ (l0++[x])∧Below w0.heap.size w0 w'∧Kept w w' (fun k_=>P0_ k_∨P1_ k_):=by
 have hle:=(Kd.R_reads' ho0).2.1;have HO:=B0.mk (show Kd.R k110 110 w w0.heap.size (fun k_=>((P0_ k_∨P1_ k_)∨w.heap.size≤k_)) (.slice A0 l0.length c0) l0 from Kd.R_mono ho0 (fun k_ hk=>.inl (.inl hk)));have HP:=B0.mk ho0.1;have HC2:=B0.mk hc2;have HB:=B0.mk hB;have HL:=B0.mk hl;clear hB ho0 hc2;have q1:(0:Int)≤(l0.length:Int):=by omega
 have q2:(l0.length:Int)≤(c0:Int):=by omega
 cases A0 with
 | none=>
  go_enter Tryz.func159,Tryz.ntmps159;go_wp2_with ((with_reducible refine P8 (b:=.append) (xs:=#[.tmp 23,.tmp 24]) rfl ?_);at_builtin;refine Kd.R_append_rows k110 (w0:=w0) w0.heap.size rfl (.tmp 23) (.tmp 24) 33 110 (.agg #[(.int .i64 0),(.int .i64 0),(.int .i64 0),(.int .i64 0),(.int .i64 0)]) 40 rfl Tryz.underlying33 A1v rfl (by decide) (by omega) _ l0 [x] _ _ _ (fun k_=>((P0_ k_∨P1_ k_)∨w.heap.size≤k_)) (fun _=>False) rfl rfl HO.out HC2.out (fun _ _ h=>h) (fun _ h=>h.elim) (fun _ hk=>.inr hk) HB.out (G4 HB.out) (by have:=HL.out;omega) ?_;intro v1 w1 ho hb hg hat;have HO1:=B0.mk ho;have HB1:=B0.mk hb;have HG:=B0.mk hg;clear ho hb hg hat)
  go_ret;exact ⟨_,rs_,HO1.out,HB1.out,IN.kept_grown HG.out (fun k hk=>.inl (HP.out k hk))⟩
 | some a0=>
  by_cases hc:c0=l0.length
  ·
   go_enter Tryz.func159,Tryz.ntmps159;go_wp2_with ((with_reducible refine P8 (b:=.append) (xs:=#[.tmp 23,.tmp 24]) rfl ?_);at_builtin;refine Kd.R_append_rows k110 (w0:=w0) w0.heap.size rfl (.tmp 23) (.tmp 24) 33 110 (.agg #[(.int .i64 0),(.int .i64 0),(.int .i64 0),(.int .i64 0),(.int .i64 0)]) 40 rfl Tryz.underlying33 A1v rfl (by decide) (by omega) _ l0 [x] _ _ _ (fun k_=>((P0_ k_∨P1_ k_)∨w.heap.size≤k_)) (fun _=>False) rfl rfl HO.out HC2.out (fun _ _ h=>h) (fun _ h=>h.elim) (fun _ hk=>.inr hk) HB.out (G4 HB.out) (by have:=HL.out;omega) ?_;intro v1 w1 ho hb hg hat;have HO1:=B0.mk ho;have HB1:=B0.mk hb;have HG:=B0.mk hg;clear ho hb hg hat)
   go_ret;exact ⟨_,rs_,HO1.out,HB1.out,IN.kept_grown HG.out (fun k hk=>.inl (HP.out k hk))⟩
  ·
   go_enter Tryz.func159,Tryz.ntmps159;go_wp2_with ((with_reducible refine P8 (b:=.append) (xs:=#[.tmp 23,.tmp 24]) rfl ?_);at_builtin;refine Kd.R_append_rows k110 (w0:=w0) w0.heap.size rfl (.tmp 23) (.tmp 24) 33 110 (.agg #[(.int .i64 0),(.int .i64 0),(.int .i64 0),(.int .i64 0),(.int .i64 0)]) 40 rfl Tryz.underlying33 A1v rfl (by decide) (by omega) _ l0 [x] _ _ _ (fun k_=>((P0_ k_∨P1_ k_)∨w.heap.size≤k_)) (fun _=>False) rfl rfl HO.out HC2.out (fun _ _ h=>h) (fun _ h=>h.elim) (fun _ hk=>.inr hk) HB.out (G4 HB.out) (by have:=HL.out;omega) ?_;intro v1 w1 ho hb hg hat;have HO1:=B0.mk ho;have HB1:=B0.mk hb;have HG:=B0.mk hg;clear ho hb hg hat)
   go_ret;exact ⟨_,rs_,HO1.out,HB1.out,IN.kept_grown HG.out (fun k hk=>.inl (HP.out k hk))⟩
set_option maxHeartbeats 2000000 in
theorem G7.calls (P0_:Nat→Prop) (u9000_:Value) (l0:List (S110)) (a1:Int) (P1_:Nat→Prop) (u9001_:Value) (l2:List (S110)) (r:List (S110)) (w0 w:World) (hB:Below w0.heap.size w0 w) (ho0:Kd.R k110 110 w w0.heap.size P0_ u9000_ l0) (hs3:∀ k_,P0_ k_→some k_≠u9001_.ownBlock) (ho2:Kd.R k110 110 w w0.heap.size P1_ u9001_ l2) (hs5:∀ k_,P1_ k_→some k_≠u9000_.ownBlock) (h:G7.f l0 a1 l2=some r) :
 Calls Tryz.prog 159 #[u9000_,.int .i64 a1,u9001_] w fun e w'=>∃ v0_:Value,e = .returned (v0_)∧Kd.R k110 110 w' w0.heap.size (fun k_=>((P0_ k_∨P1_ k_)∨w.heap.size≤k_)) v0_ r∧Below w0.heap.size w0 w'∧Kept w w' (fun k_=>P0_ k_∨P1_ k_):=by
 unfold G7.f at h
 by_cases hg:0≤a1∧a1≤(l0.length:Int)∧l2.length=1∧l0.length<1048577
 ·
  rw [if_pos hg] at h;obtain rfl:=Option.some.inj h;clear h;obtain ⟨g1,g2,g3,g4⟩:=hg;obtain ⟨i,rfl⟩:=Int.eq_ofNat_of_zero_le g1;have g5:i≤l0.length:=by omega
  rw [Int.toNat_natCast]
  obtain ⟨x,rfl⟩:∃ x,l2=[x]:=by
   match l2,g3 with
   | [x],_=>exact ⟨x,rfl⟩
  obtain ⟨hv,hv2⟩ | ⟨vb,cv,rfl⟩:=IN.R_cases ho2
  ·
   cases hv2
  by_cases hin:i=l0.length
  ·
   subst hin;rw [List.take_length,List.drop_length,List.append_nil]
   obtain ⟨A0,c0,e0⟩:=Kd.R_slice ho0;subst e0;exact G7.tail P0_ P1_ A0 c0 l0 vb cv x w0 w hB ho0 (Kd.R_reads' ho2).2.2 g4
  ·
   obtain ⟨hv,hv2⟩ | ⟨gg,co,rfl⟩:=IN.R_cases ho0
   ·
    subst hv2;exact absurd g5 (by intro g;apply hin;simp at g;simp [g])
   obtain ⟨n1,n2,n3,n4,n5,cur,hc,hcs,S,hL⟩:=IN.R_raw G7.flat ho0;obtain ⟨m1,m2,m3,m4,m5,curv,hcv,hcvs,Sv,hLv⟩:=IN.R_raw G7.flat ho2;have hne:vb≠gg:=fun e_=>hs3 gg n5 (by rw [e_];simp [Value.ownBlock])
   have hLv':curv.toList=(fun x:S110=>([.int .i64 x.f0,.int .i64 x.f1,.int .i64 x.f2,.int .i64 x.f3,.int .i64 x.f4]:List Value)) x++Sv:=by simpa using hLv
   have hlen:(l0.take i++[x]++l0.drop i).length=l0.length+1:=by simp;omega
   by_cases hroom:l0.length+1≤co
   ·
    obtain ⟨W1,hW1⟩:∃ W1,W1=w.drew.setCells gg ((i+1)*5) ((l0.drop i).flatMap (fun x:S110=>([.int .i64 x.f0,.int .i64 x.f1,.int .i64 x.f2,.int .i64 x.f3,.int .i64 x.f4]:List Value))):=⟨_,rfl⟩;obtain ⟨W2,hW2⟩:∃ W2,W2=W1.setCells gg (i*5) ((fun x:S110=>([.int .i64 x.f0,.int .i64 x.f1,.int .i64 x.f2,.int .i64 x.f3,.int .i64 x.f4]:List Value)) x):=⟨_,rfl⟩;obtain ⟨r1,r2,r3,cur2,S2,r4,r5,r6⟩:=IN.insert_room (P:=Tryz.prog) G7.flat (k:=5) rfl (W:=w.drew) (x:=x) hc hcs hL g5 hroom hne hcv hLv' 33 110 Tryz.underlying33 G7.sized hW1 hW2;have rg:w.grownBy W2 (some gg):=⟨r3.os,r3.tape,r3.output,r3.size,r3.block⟩;refine (G7.room w W1 W2 gg vb l0.length i co cv (by omega) hroom g4 (fun lb cb=>G7.ov_apart (a:=⟨vb,0,none⟩) (b:=⟨gg,(i+1)*5,none⟩) hne hcv hc (by rw [hcs];exact Nat.mul_ne_zero (by omega) (by decide)) (Q6 hcv _)) r1 r2).mono ?_
    rintro e w' ⟨rfl,rfl⟩;refine ⟨_,rfl,?_,hB.grown rg (G4 hB) (fun k hk=>by cases hk;exact n4),IN.kept_grown rg (fun k hk=>by cases hk;exact .inl n5)⟩
    have hR:=IN.R_of_raw G7.flat (ok:=fun k_=>(P0_ k_∨P1_ k_)∨w.heap.size≤k_) n4 (.inl (.inl n5)) r4 (xs:=l0.take i++[x]++l0.drop i) (by omega) n3 (by rw [r5];exact hcs) r6
    rw [hlen] at hR;exact hR
   ·
    have hgl:gg<w.heap.size:=A2r hc;have hvl:vb<w.heap.size:=A2r hcv;have lT:((l0.take i).flatMap (fun x:S110=>([.int .i64 x.f0,.int .i64 x.f1,.int .i64 x.f2,.int .i64 x.f3,.int .i64 x.f4]:List Value))).length=i*5:=by rw [G7.flat.flen w,List.length_take,Nat.min_eq_left g5];rfl
    obtain ⟨i0,hi0,hz⟩:=Option.map_eq_some_iff.1 A1v;simp only [Prod.mk.injEq] at hz
    have hrun:=fun ty=>IN.run_grow (P:=Tryz.prog) w 33 3 ty 110 i0 (.agg #[(.int .i64 0),(.int .i64 0),(.int .i64 0),(.int .i64 0),(.int .i64 0)]) 5 40 Tryz.underlying33 Tryz.underlying3 hi0 hz.1 hz.2.1 hz.2.2 rfl (by decide) (by decide) (some ⟨gg,0,none⟩) i co ((l0.take i).flatMap (fun x:S110=>([.int .i64 x.f0,.int .i64 x.f1,.int .i64 x.f2,.int .i64 x.f3,.int .i64 x.f4]:List Value))) lT (fun h=>by cases h)
     (fun a ha j u hj=>by
      cases ha;rw [Addr.add_lit,Nat.zero_add,cell_of_row w gg j cur 110 (0,0) hc,← Array.getElem?_toList,hL]
      have hx:l0=l0.take i++l0.drop i:=(List.take_append_drop i l0).symm;rw [hx,List.flatMap_append,List.append_assoc,List.getElem?_append_left (List.getElem?_eq_some_iff.1 hj).1,hj]) .i64 (l0.length+1-i) (by omega) (by omega) (by omega)
    have hin1:i+(l0.length+1-i)=l0.length+1:=by omega
    rw [hin1] at hrun;obtain ⟨C,hCe⟩:∃ C,C=grownCap w (l0.length+1) co 110:=⟨_,rfl⟩;rw [← hCe] at hrun;have hC1:l0.length+1≤C:=by rw [hCe];exact grownCap_ge w _ _ _
    have hC2:C≤maxLen:=by rw [hCe];exact grownCap_le_maxLen w _ _ _ (by unfold maxLen;omega)
    obtain ⟨Wa,hWa⟩:∃ Wa,Wa=w.drew.alloc (.cells (((l0.take i).flatMap (fun x:S110=>([.int .i64 x.f0,.int .i64 x.f1,.int .i64 x.f2,.int .i64 x.f3,.int .i64 x.f4]:List Value))).toArray++Builtin.zeroCells (Value.agg #[Value.int .i64 0,Value.int .i64 0,Value.int .i64 0,Value.int .i64 0,Value.int .i64 0]).cells (l0.length+1-i)++Builtin.zeroCells (Value.agg #[Value.int .i64 0,Value.int .i64 0,Value.int .i64 0,Value.int .i64 0,Value.int .i64 0]).cells (C-(l0.length+1))) 110):=⟨_,rfl⟩;rw [← hWa] at hrun
    have ha1:w.grownBy Wa none:=by
     have q:=World.grownBy_alloc w.drew (.cells (((l0.take i).flatMap (fun x:S110=>([.int .i64 x.f0,.int .i64 x.f1,.int .i64 x.f2,.int .i64 x.f3,.int .i64 x.f4]:List Value))).toArray++Builtin.zeroCells (Value.agg #[Value.int .i64 0,Value.int .i64 0,Value.int .i64 0,Value.int .i64 0,Value.int .i64 0]).cells (l0.length+1-i)++Builtin.zeroCells (Value.agg #[Value.int .i64 0,Value.int .i64 0,Value.int .i64 0,Value.int .i64 0,Value.int .i64 0]).cells (C-(l0.length+1))) 110) none;rw [← hWa] at q;exact ⟨q.os,q.tape,q.output,q.size,q.block⟩
    have hca:Wa.heap[gg]? = some (.cells cur 110 (0,0)):=(ha1.block gg hgl (by simp)).trans hc
    have hcva:Wa.heap[vb]? = some (.cells curv 110 (0,0)):=(ha1.block vb hvl (by simp)).trans hcv
    have hha:Wa.heap[w.heap.size]? = some (.cells (((l0.take i).flatMap (fun x:S110=>([.int .i64 x.f0,.int .i64 x.f1,.int .i64 x.f2,.int .i64 x.f3,.int .i64 x.f4]:List Value))).toArray++Builtin.zeroCells (Value.agg #[Value.int .i64 0,Value.int .i64 0,Value.int .i64 0,Value.int .i64 0,Value.int .i64 0]).cells (l0.length+1-i)++Builtin.zeroCells (Value.agg #[Value.int .i64 0,Value.int .i64 0,Value.int .i64 0,Value.int .i64 0,Value.int .i64 0]).cells (C-(l0.length+1))) 110 (0,0)):=by
     rw [hWa]
     exact Array.getElem?_push_size
    obtain ⟨W1,hW1⟩:∃ W1,W1=Wa.setCells w.heap.size (i*5) ((fun x:S110=>([.int .i64 x.f0,.int .i64 x.f1,.int .i64 x.f2,.int .i64 x.f3,.int .i64 x.f4]:List Value)) x):=⟨_,rfl⟩;obtain ⟨W2,hW2⟩:∃ W2,W2=W1.drew.setCells w.heap.size ((i+1)*5) ((l0.drop i).flatMap (fun x:S110=>([.int .i64 x.f0,.int .i64 x.f1,.int .i64 x.f2,.int .i64 x.f3,.int .i64 x.f4]:List Value))):=⟨_,rfl⟩;have zl:∀ m,(Builtin.zeroCells (Value.agg #[Value.int .i64 0,Value.int .i64 0,Value.int .i64 0,Value.int .i64 0,Value.int .i64 0]).cells m).toList.length=m*5:=fun m=>by simp [Builtin.zeroCells,Value.cells]
    obtain ⟨r1,r2,cur2,r4,r5,r6⟩:=IN.insert_grow (P:=Tryz.prog) G7.flat (k:=5) rfl (Wa:=Wa) (Wd:=W1.drew) (x:=x) hca hL hha (Z:=(Builtin.zeroCells (Value.agg #[Value.int .i64 0,Value.int .i64 0,Value.int .i64 0,Value.int .i64 0,Value.int .i64 0]).cells (l0.length+1-i)).toList) (Z':=(Builtin.zeroCells (Value.agg #[Value.int .i64 0,Value.int .i64 0,Value.int .i64 0,Value.int .i64 0,Value.int .i64 0]).cells (C-(l0.length+1))).toList) (by simp) (zl _) g5 (by omega) hcva hLv' 33 110 Tryz.underlying33 G7.sized hW1 rfl hW2
    have hg1:Wa.grownBy W1 (some w.heap.size):=by rw [hW1];exact IN.grown_set _ _
    have hg2:W1.grownBy W2 (some w.heap.size):=by
     have q:=IN.grown_set (W:=W1.drew) (g:=w.heap.size) ((l0.drop i).flatMap (fun x:S110=>([.int .i64 x.f0,.int .i64 x.f1,.int .i64 x.f2,.int .i64 x.f3,.int .i64 x.f4]:List Value))) ((i+1)*5);rw [← hW2] at q;exact ⟨q.os,q.tape,q.output,q.size,q.block⟩
    have rg:w.grownBy W2 none:=⟨hg2.os.trans (hg1.os.trans ha1.os),hg2.tape.trans (hg1.tape.trans ha1.tape),hg2.output.trans (hg1.output.trans ha1.output),Nat.le_trans ha1.size (Nat.le_trans hg1.size hg2.size),fun k hk _=>(hg2.block k (Nat.lt_of_lt_of_le hk (Nat.le_trans ha1.size hg1.size)) (by simp;omega)).trans ((hg1.block k (Nat.lt_of_lt_of_le hk ha1.size) (by simp;omega)).trans (ha1.block k hk (by simp)))⟩
    refine (G7.grow w Wa W1 W2 gg vb w.heap.size l0.length i co cv C (by omega) (by omega) n2 hC1 g4 hrun r1 r2).mono ?_
    rintro e w' ⟨rfl,rfl⟩;refine ⟨_,rfl,?_,hB.grown rg (G4 hB) (fun k hk=>by cases hk),IN.kept_grown rg (fun k hk=>by cases hk)⟩
    have hR:=IN.R_of_raw G7.flat (ok:=fun k_=>(P0_ k_∨P1_ k_)∨w.heap.size≤k_) (G4 hB) (.inr (Nat.le_refl _)) r4 (xs:=l0.take i++[x]++l0.drop i) (c:=C) (by omega) hC2 (by
     rw [r5,← Array.length_toList]
     simp only [Array.toList_append,List.length_append,zl,lT]
     show i*5+(l0.length+1-i)*5+(C-(l0.length+1))*5=C*5
     omega) r6
    rw [hlen] at hR;exact hR
 ·
  rw [if_neg hg] at h;cases h
def D1.T4:Bool×List (List Nat×List Nat):=(true,[([],[]),([],[]),([1],[1]),([0,2],[0,2]),([3],[3]),([4],[4]),([4],[4]),([5,6,4],[4,5,6]),([7,4],[4,7]),([4],[4]),([8,9,4,4],[4,8,9]),([10,4],[4,10]),([4,11],[4,11])])
def D1.B4:List Nat:=[0,0,2,7,15,31,31,127,255,31,1023,2047,4095]
theorem D1.tab4:rtab .any (C8x Tryz.f119 4)=D1.T4:=by kernel_rfl
theorem D1.bits4:A3e D1.T4.2 D1.B4=true:=by kernel_rfl
theorem D1.calls (k:Nat) (A0:Option Addr) (c0:Nat) (l0:List (S110)) (a1_0:Int) (a1_1:Int) (a1_2:Int) (a1_3:Int) (a1_4:Int) (r1:List (S110)) (r2:Int) (w:World) (hr0:Kd.C k110 w A0 l0.length l0) (hc0:l0.length≤c0) (h:D1.f k l0 a1_0 a1_1 a1_2 a1_3 a1_4=some (r1,r2)) :
 Calls Tryz.prog 119 #[.slice A0 l0.length c0,.agg #[.int .i64 a1_0,.int .i64 a1_1,.int .i64 a1_2,.int .i64 a1_3,.int .i64 a1_4]] w fun e w'=>∃ v0_:Value,e = .returned (.tuple #[v0_,.int .i64 r2])∧Kd.R k110 110 w' w.heap.size (fun _=>True) v0_ r1∧Below w.heap.size w w':=by
 have hu110:=Tryz.underlying110;have HR0:=B0.mk hr0;have HC0:=B0.mk hc0;clear hr0 hc0;have HB:=B0.mk (Below.refl w.heap.size w);have H:((A9.f l0).bind fun t1480=>(if t1480=true then ((A9.f (([(⟨a1_0,a1_1,a1_2,a1_3,a1_4⟩:S110)]:List (S110)))).bind fun t1484=>(D1.j0 k l0 (!t1484) a1_0 a1_1 a1_2 a1_3 a1_4)) else (D1.j0 k l0 true a1_0 a1_1 a1_2 a1_3 a1_4)))=some (r1,r2):=h;clear h;have HC3:=B0.mk H;clear H;go_enter Tryz.func119,Tryz.ntmps119;go_upto_region 1 with (first | ((with_reducible refine P7 (N:=3) rfl ?_);(try (refine A1p (by rfl) ?_;dsimp only));refine be_ 3 (cs:=#[.int .i64 a1_0,.int .i64 a1_1,.int .i64 a1_2,.int .i64 a1_3,.int .i64 a1_4]) (t:=110) ?_;intro gb1479 hg w4 hbox hb;have n_:=bx_ hg hbox hb;clear HB;obtain ⟨HB,BK1479,GW1479,GE1479⟩:=n_;clear hb hbox hg))
 (try simp only [Act.put,List.setIfInBounds_toArray,List.set_cons_zero,List.set_cons_succ])
 go_cut [16] (fun v16 wc=>∃ (kq:Nat) (x16_2:Bool),v16 = .bool x16_2∧B0 (D1.j0 kq l0 x16_2 a1_0 a1_1 a1_2 a1_3 a1_4=some (r1,r2))∧B0 (kq≤k)∧B0 (wc.heap[gb1479]? = some (.cells #[.int .i64 a1_0,.int .i64 a1_1,.int .i64 a1_2,.int .i64 a1_3,.int .i64 a1_4] 110 (0,0)))∧B0 (Below w.heap.size w wc))
 case first=>
  have H:=HC3.out;clear HC3;replace H:=Option.bind_eq_some_iff.mp H;obtain ⟨t1480,A50,H⟩:=H;have A5:=B0.mk A50;clear A50
  by_cases c6:t1480=true
  ·
   subst c6;replace H:=Eq.trans (if_pos rfl).symm H;obtain ⟨y1481,hy1481⟩:∃ y_:List (S110),y_=(([(⟨a1_0,a1_1,a1_2,a1_3,a1_4⟩:S110)]:List (S110))):=⟨_,rfl⟩;replace H:((A9.f y1481).bind fun t1484=>(D1.j0 k l0 (!t1484) a1_0 a1_1 a1_2 a1_3 a1_4))=some (r1,r2):=rh_ hy1481 H;have Ny1481:=B0.mk hy1481;clear hy1481;replace H:=Option.bind_eq_some_iff.mp H;obtain ⟨t1484,A70,H⟩:=H;have A7:=B0.mk A70;clear A70;have H':=B0.mk H;clear H
   go_wp2_with (first | ((with_reducible refine M3 (f:=92) rfl ?_);refine V6 (some 9) rfl rfl Tryz.func92 kr_ rfl #[.slice A0 l0.length c0] rfl (bc_) ?_;(with_reducible refine (A9.calls _ _ l0 true _ ?side1 ?side2 A5.out).mono ?_);(case side1=>exact cc_ (Kd.C_below HR0.out HB.out));(case side2=>exact HC0.out);rintro e w8 ⟨rfl,hb⟩;refine ⟨_,rfl,?_⟩;have n_:=as2_ (bl_ BK1479.out hb) (D0 (bg_ GE1479.out) hb);clear BK1479 HB;obtain ⟨BK1479,HB⟩:=n_;(try clear hb);obtain ⟨_,_,_,_,_,_,_,_,_,_⟩:=ce5_ BK1479.out) | ((with_reducible refine P7 (N:=13) rfl ?_);(try (refine A1p (by rfl) ?_;dsimp only));refine Kd.R_lit k110 _ 110 ?hg (N:=13) ?hd (xs:=([(⟨a1_0,a1_1,a1_2,a1_3,a1_4⟩:S110)]:List (S110))) (inner:=[.int .i64 a1_0,.int .i64 a1_1,.int .i64 a1_2,.int .i64 a1_3,.int .i64 a1_4]) (ok:=fun _=>True) (okp:=fun _=>True) ?hr ?hp (fun _ hk=>hk) trivial (Below.refl _ _) (Nat.le_refl _) (by simp) ?_;(case hd=>rfl);(case hg=>rfl);(case hr=>first | (go_simp;done) | (go_simp;rfl));(case hp=>exact (Reps.c5 (show Kd.M k110 _ _ _ (⟨a1_0,a1_1,a1_2,a1_3,a1_4⟩:S110) [.int .i64 a1_0,.int .i64 a1_1,.int .i64 a1_2,.int .i64 a1_3,.int .i64 a1_4] from (A1a _ _ _ (⟨a1_0,a1_1,a1_2,a1_3,a1_4⟩:S110) )) (Reps.none _ _)));intro v1482 w10 ho11 hb hg_ hnew_;clear hg_ hnew_;(first | rw [← Ny1481.out] at ho11 | (simp only [Int.reduceToNat] at ho11;rw [← Ny1481.out] at ho11));have n_:=as3_ (Kd.R_lower (Kd.R_newB ho11 (g:=gb1479) (o:=.cells #[.int .i64 a1_0,.int .i64 a1_1,.int .i64 a1_2,.int .i64 a1_3,.int .i64 a1_4] 110 (0,0)) (pb_ BK1479.out)) (G4 (bg_ GE1479.out))) (bl_ BK1479.out hb) (D0 (bg_ GE1479.out) hb);clear BK1479 HB;obtain ⟨HO1483,BK1479,HB⟩:=n_;clear hb ho11;obtain ⟨Ao12,co12,eo12⟩:=Kd.R_slice HO1483.out;subst eo12) | (go_at_call 92;(with_reducible refine (A9.calls _ _ y1481 t1484 _ ?side1 ?side2 A7.out).mono ?_);(case side1=>exact cc_ (Kd.R_reads' HO1483.out).2.2);(case side2=>exact (Kd.R_reads' HO1483.out).2.1);rintro e w13 ⟨rfl,hb⟩;have n_:=as3_ (Kd.R_below (pe_ HO1483.out) hb) (bl_ BK1479.out hb) (D0 (bg_ GE1479.out) hb);clear HO1483 BK1479 HB;obtain ⟨HO1483,BK1479,HB⟩:=n_;(try clear hb)))
   go_meet
   case rel=>exact ⟨_,(!t1484),(rs_),H',⟨le_⟩,⟨pb_ BK1479.out⟩,⟨bg_ GE1479.out⟩⟩
  ·
   replace c6:=Bool.eq_false_iff.mpr c6;subst c6;have H':=B0.mk (Eq.trans (if_neg nf_).symm H);clear H;go_wp2_with (first | ((with_reducible refine M3 (f:=92) rfl ?_);refine V6 (some 9) rfl rfl Tryz.func92 kr_ rfl #[.slice A0 l0.length c0] rfl (bc_) ?_;(with_reducible refine (A9.calls _ _ l0 false _ ?side1 ?side2 A5.out).mono ?_);(case side1=>exact cc_ (Kd.C_below HR0.out HB.out));(case side2=>exact HC0.out);rintro e w14 ⟨rfl,hb⟩;refine ⟨_,rfl,?_⟩;have n_:=as2_ (bl_ BK1479.out hb) (D0 (bg_ GE1479.out) hb);clear BK1479 HB;obtain ⟨BK1479,HB⟩:=n_;(try clear hb)))
   go_meet
   case rel=>exact ⟨_,(true),(rs_),H',⟨le_⟩,⟨pb_ BK1479.out⟩,⟨bg_ GE1479.out⟩⟩
 case rest=>
  clear HC3;try clear c1
  try clear p2
  try clear c5
  try clear c6
  try clear c9
  try clear c11
  obtain ⟨kq,x16_2,rfl,HA,HJ2,BK1479,HB⟩:=hcut
  cases kq with
  | zero=>exact absurd HA.out (by simp [D1.j0])
  | succ kj2=>
   have H:=HA.out;clear HA;simp only [D1.j0] at H
   by_cases c15:x16_2=true
   ·
    subst c15;replace H:=Eq.trans (if_pos rfl).symm H;simp only [Option.some.injEq,Prod.mk.injEq] at H;obtain ⟨rfl,rfl⟩:=H;go_wp2;go_ret2;exact ⟨_,er_,by first | exact Kd.R_nil _ _ _ _ _ | exact Kd.N_nil _ _ _ _ _ | exact Kd.V_nil _ _ _ _ _ | exact Kd.Q_nil _ _ _ _ _ | exact Kd.S_nil _ _ _ _ _,bg_ GE1479.out⟩
   ·
    replace c15:=Bool.eq_false_iff.mpr c15;subst c15;replace H:=Eq.trans (if_neg nf_).symm H;have HC16:=B0.mk H;clear H;go_upto_block 0 with (fail)
    go_cut [6] (fun v6 wc=>∃ (kq:Nat) (x6_15:Int),v6 = .int .i64 x6_15∧B0 (D1.j2 kq l0 x6_15 a1_0 a1_1 a1_2 a1_3 a1_4=some (r1,r2))∧B0 (kq≤kj2)∧B0 (wc.heap[gb1479]? = some (.cells #[.int .i64 a1_0,.int .i64 a1_1,.int .i64 a1_2,.int .i64 a1_3,.int .i64 a1_4] 110 (0,0)))∧B0 (Below w.heap.size w wc))
    case first=>
     have H:=HC16.out;clear HC16;have H':=B0.mk H;clear H;go_wp2;go_loopg [6] kj2 (fun kq v6 w'=>∃ (x6_2:Int),v6 = .int .i64 x6_2∧B0 (D1.l0 kq l0 x6_2 a1_0 a1_1 a1_2 a1_3 a1_4=some (r1,r2))∧B0 (kq≤kj2)∧B0 (w'.heap[gb1479]? = some (.cells #[.int .i64 a1_0,.int .i64 a1_1,.int .i64 a1_2,.int .i64 a1_3,.int .i64 a1_4] 110 (0,0)))∧B0 (Below w.heap.size w w'))
     case atStart=>exact ⟨(0),(rs_),H',⟨Nat.le_refl _⟩,⟨pb_ BK1479.out⟩,⟨bg_ GE1479.out⟩⟩
     case round=>
      clear H';(try clear c1);(try clear p2);(try clear c5);(try clear c6);(try clear c9);(try clear c11);(try clear c15);(try clear p2);obtain ⟨x6_2,rfl,HA,HK2,BK1479,HB⟩:=hrel
      cases gk with
      | zero=>exact absurd HA.out (by simp [D1.l0])
      | succ k2=>
       have H:=HA.out;clear HA;simp only [D1.l0] at H
       by_cases c17:x6_2<(l0.length:Int)
       ·
        rw [if_pos c17] at H;have c17b0:decide (x6_2<(l0.length:Int))=true:=decide_eq_true c17;clear c17;(first | rw [c17b0] | (simp only [A2z,A7a];rw [c17b0]) | skip)
        by_cases c18:0≤x6_2
        ·
         rw [if_pos c18] at H;have c18b0:decide (0≤x6_2)=true:=decide_eq_true c18;clear c18;replace H:=Option.bind_eq_some_iff.mp H;obtain ⟨t1486,A190,H⟩:=H;have A19:=B0.mk A190;clear A190
         by_cases c20:t1486<0
         ·
          rw [if_pos c20] at H;have c20b0:decide (t1486<0)=true:=decide_eq_true c20;clear c20;have H':=B0.mk H;clear H;try go_wp2
          have n_:=as2_ (A0n BK1479.out) (Q5 HB.out);clear BK1479 HB;obtain ⟨BK1479,HB⟩:=n_;have p1485:0≤(x6_2:Int):=od_;have q1485:x6_2<(l0.length:Int):=od_;obtain ⟨ad1485,e1485,hx1485_0,hx1485_1,hx1485_2,hx1485_3,hx1485_4⟩:=A4v HR0.out x6_2 p1485 q1485;have hw1485_4:=hx1485_4;have hw1485_3:=hx1485_3;have hw1485_2:=hx1485_2;have hw1485_1:=hx1485_1;have hw1485_0:=hx1485_0;cases e1485;replace hx1485_0:=cl_ HB.out hx1485_0;replace hx1485_1:=cl_ HB.out hx1485_1;replace hx1485_2:=cl_ HB.out hx1485_2;replace hx1485_3:=cl_ HB.out hx1485_3;replace hx1485_4:=cl_ HB.out hx1485_4;replace p1485:=eq_true p1485;replace q1485:=eq_true q1485
          refine A3m (n:=13) (S:=fun w'=>w'.cell? ⟨gb1479,0,none⟩=some (.int .i64 a1_0)∧w'.cell? ⟨gb1479,1,none⟩=some (.int .i64 a1_1)∧w'.cell? ⟨gb1479,2,none⟩=some (.int .i64 a1_2)∧w'.cell? ⟨gb1479,3,none⟩=some (.int .i64 a1_3)∧w'.cell? ⟨gb1479,4,none⟩=some (.int .i64 a1_4)∧w'.cell? (ad1485.add ((x6_2).toNat*5))=some (.int .i64 ((A4 l0 x6_2).f0))∧w'.cell? ⟨(ad1485.add ((x6_2).toNat*5)).block,(ad1485.add ((x6_2).toNat*5)).off+1,none⟩=some (.int .i64 ((A4 l0 x6_2).f1))∧w'.cell? ⟨(ad1485.add ((x6_2).toNat*5)).block,(ad1485.add ((x6_2).toNat*5)).off+2,none⟩=some (.int .i64 ((A4 l0 x6_2).f2))∧w'.cell? ⟨(ad1485.add ((x6_2).toNat*5)).block,(ad1485.add ((x6_2).toNat*5)).off+3,none⟩=some (.int .i64 ((A4 l0 x6_2).f3))∧w'.cell? ⟨(ad1485.add ((x6_2).toNat*5)).block,(ad1485.add ((x6_2).toNat*5)).off+4,none⟩=some (.int .i64 ((A4 l0 x6_2).f4))) (ds:=[]) (ba_ 13 0) kr_ rfl rfl ⟨(C4 BK1479.out 0).trans rfl,(C4 BK1479.out 1).trans rfl,(C4 BK1479.out 2).trans rfl,(C4 BK1479.out 3).trans rfl,(C4 BK1479.out 4).trans rfl,(cl_ HB.out hw1485_0 :),(cl_ HB.out hw1485_1 :),(cl_ HB.out hw1485_2 :),(cl_ HB.out hw1485_3 :),(cl_ HB.out hw1485_4 :)⟩ (fun hHeld=>?_);refine A0t D1.tab4 D1.bits4 (fun HT_ HW_=>?_)
          generalize wr.drew=w21 at BK1479 HB hx1485_0 hx1485_1 hx1485_2 hx1485_3 hx1485_4 hHeld ⊢
          refine pu_ 0 17 HT_.out (ba_ 13 1) ?_;refine pu_ 1 18 HT_.out (ba_ 13 3) ?_;refine pu_ 2 19 HT_.out (ba_ 13 7) ?_;refine pu_ 3 20 HT_.out (ba_ 13 15) ?_;refine pu_ 4 21 HT_.out (ba_ 13 31) ?_;refine pu_ 5 22 HT_.out (ba_ 13 63) ?_;refine pu_ 6 23 HT_.out (ba_ 13 127) ?_;refine pu_ 7 24 HT_.out (ba_ 13 255) ?_;refine ta_ 8 25 HT_.out HW_.out hHeld (ba_ 13 511) ?_;refine ta_ 9 26 HT_.out HW_.out hHeld (ba_ 13 1023) ?_;refine one_ (i:=10) (N:=some 27) (ba_ 13 2047) rfl rfl (A5a HT_.out kr_) (by decide) (fun K hK=>?_)
          refine A4c Tryz.func133 kr_ rfl #[.agg #[.int .i64 ((A4 l0 x6_2).f0),.int .i64 ((A4 l0 x6_2).f1),.int .i64 ((A4 l0 x6_2).f2),.int .i64 ((A4 l0 x6_2).f3),.int .i64 ((A4 l0 x6_2).f4)],.agg #[.int .i64 a1_0,.int .i64 a1_1,.int .i64 a1_2,.int .i64 a1_3,.int .i64 a1_4]] (by rfl) rfl rfl (bc_) ?_
          with_reducible refine (L3.calls k2 ((A4 l0 x6_2).f0) ((A4 l0 x6_2).f1) ((A4 l0 x6_2).f2) ((A4 l0 x6_2).f3) ((A4 l0 x6_2).f4) a1_0 a1_1 a1_2 a1_3 a1_4 t1486 _ A19.out).mono ?_
          rintro e w22 ⟨rfl,hb⟩;refine ⟨_,rfl,?_⟩
          have n_:=as2_ (bl_ BK1479.out hb) (D0 (bg_ GE1479.out) hb);clear BK1479 HB;obtain ⟨BK1479,HB⟩:=n_




          refine hK.out _ _ ⟨(C4 BK1479.out 0).trans rfl,(C4 BK1479.out 1).trans rfl,(C4 BK1479.out 2).trans rfl,(C4 BK1479.out 3).trans rfl,(C4 BK1479.out 4).trans rfl,(cl_ HB.out hw1485_0 :),(cl_ HB.out hw1485_1 :),(cl_ HB.out hw1485_2 :),(cl_ HB.out hw1485_3 :),(cl_ HB.out hw1485_4 :)⟩ (fun hHeld=>?_)
          clear hK K;refine A0l (a':=?_) ?_ ?_
          rotate_left
          ·
           show Act.put _ (some 27) _=_
           exact sp_
          refine pu_ 11 28 HT_.out (ba_ 13 4095) ?_;refine pu_ 12 29 HT_.out (ba_ 13 8191) ?_;refine A9d (A3i HT_.out kr_) ?_
          try go_wp2
          go_roundg k2
          case measure=>have:=HJ2.out;have:=HK2.out;omega
          case rel=>exact ⟨(wrap64 (x6_2+1)),(rs_),H',⟨by have:=HJ2.out;have:=HK2.out;omega⟩,⟨pb_ BK1479.out⟩,⟨bg_ GE1479.out⟩⟩
         ·
          rw [if_neg c20] at H;have c20b0:decide (t1486<0)=false:=decide_eq_false c20;clear c20;have H':=B0.mk H;clear H;try go_wp2
          have n_:=as2_ (A0n BK1479.out) (Q5 HB.out);clear BK1479 HB;obtain ⟨BK1479,HB⟩:=n_;have p1485:0≤(x6_2:Int):=od_;have q1485:x6_2<(l0.length:Int):=od_;obtain ⟨ad1485,e1485,hx1485_0,hx1485_1,hx1485_2,hx1485_3,hx1485_4⟩:=A4v HR0.out x6_2 p1485 q1485;have hw1485_4:=hx1485_4;have hw1485_3:=hx1485_3;have hw1485_2:=hx1485_2;have hw1485_1:=hx1485_1;have hw1485_0:=hx1485_0;cases e1485;replace hx1485_0:=cl_ HB.out hx1485_0;replace hx1485_1:=cl_ HB.out hx1485_1;replace hx1485_2:=cl_ HB.out hx1485_2;replace hx1485_3:=cl_ HB.out hx1485_3;replace hx1485_4:=cl_ HB.out hx1485_4;replace p1485:=eq_true p1485;replace q1485:=eq_true q1485
          refine A3m (n:=13) (S:=fun w'=>w'.cell? ⟨gb1479,0,none⟩=some (.int .i64 a1_0)∧w'.cell? ⟨gb1479,1,none⟩=some (.int .i64 a1_1)∧w'.cell? ⟨gb1479,2,none⟩=some (.int .i64 a1_2)∧w'.cell? ⟨gb1479,3,none⟩=some (.int .i64 a1_3)∧w'.cell? ⟨gb1479,4,none⟩=some (.int .i64 a1_4)∧w'.cell? (ad1485.add ((x6_2).toNat*5))=some (.int .i64 ((A4 l0 x6_2).f0))∧w'.cell? ⟨(ad1485.add ((x6_2).toNat*5)).block,(ad1485.add ((x6_2).toNat*5)).off+1,none⟩=some (.int .i64 ((A4 l0 x6_2).f1))∧w'.cell? ⟨(ad1485.add ((x6_2).toNat*5)).block,(ad1485.add ((x6_2).toNat*5)).off+2,none⟩=some (.int .i64 ((A4 l0 x6_2).f2))∧w'.cell? ⟨(ad1485.add ((x6_2).toNat*5)).block,(ad1485.add ((x6_2).toNat*5)).off+3,none⟩=some (.int .i64 ((A4 l0 x6_2).f3))∧w'.cell? ⟨(ad1485.add ((x6_2).toNat*5)).block,(ad1485.add ((x6_2).toNat*5)).off+4,none⟩=some (.int .i64 ((A4 l0 x6_2).f4))) (ds:=[]) (ba_ 13 0) kr_ rfl rfl ⟨(C4 BK1479.out 0).trans rfl,(C4 BK1479.out 1).trans rfl,(C4 BK1479.out 2).trans rfl,(C4 BK1479.out 3).trans rfl,(C4 BK1479.out 4).trans rfl,(cl_ HB.out hw1485_0 :),(cl_ HB.out hw1485_1 :),(cl_ HB.out hw1485_2 :),(cl_ HB.out hw1485_3 :),(cl_ HB.out hw1485_4 :)⟩ (fun hHeld=>?_);refine A0t D1.tab4 D1.bits4 (fun HT_ HW_=>?_)
          generalize wr.drew=w23 at BK1479 HB hx1485_0 hx1485_1 hx1485_2 hx1485_3 hx1485_4 hHeld ⊢
          refine pu_ 0 17 HT_.out (ba_ 13 1) ?_;refine pu_ 1 18 HT_.out (ba_ 13 3) ?_;refine pu_ 2 19 HT_.out (ba_ 13 7) ?_;refine pu_ 3 20 HT_.out (ba_ 13 15) ?_;refine pu_ 4 21 HT_.out (ba_ 13 31) ?_;refine pu_ 5 22 HT_.out (ba_ 13 63) ?_;refine pu_ 6 23 HT_.out (ba_ 13 127) ?_;refine pu_ 7 24 HT_.out (ba_ 13 255) ?_;refine ta_ 8 25 HT_.out HW_.out hHeld (ba_ 13 511) ?_;refine ta_ 9 26 HT_.out HW_.out hHeld (ba_ 13 1023) ?_;refine one_ (i:=10) (N:=some 27) (ba_ 13 2047) rfl rfl (A5a HT_.out kr_) (by decide) (fun K hK=>?_)
          refine A4c Tryz.func133 kr_ rfl #[.agg #[.int .i64 ((A4 l0 x6_2).f0),.int .i64 ((A4 l0 x6_2).f1),.int .i64 ((A4 l0 x6_2).f2),.int .i64 ((A4 l0 x6_2).f3),.int .i64 ((A4 l0 x6_2).f4)],.agg #[.int .i64 a1_0,.int .i64 a1_1,.int .i64 a1_2,.int .i64 a1_3,.int .i64 a1_4]] (by rfl) rfl rfl (bc_) ?_
          with_reducible refine (L3.calls k2 ((A4 l0 x6_2).f0) ((A4 l0 x6_2).f1) ((A4 l0 x6_2).f2) ((A4 l0 x6_2).f3) ((A4 l0 x6_2).f4) a1_0 a1_1 a1_2 a1_3 a1_4 t1486 _ A19.out).mono ?_
          rintro e w24 ⟨rfl,hb⟩;refine ⟨_,rfl,?_⟩
          have n_:=as2_ (bl_ BK1479.out hb) (D0 (bg_ GE1479.out) hb);clear BK1479 HB;obtain ⟨BK1479,HB⟩:=n_




          refine hK.out _ _ ⟨(C4 BK1479.out 0).trans rfl,(C4 BK1479.out 1).trans rfl,(C4 BK1479.out 2).trans rfl,(C4 BK1479.out 3).trans rfl,(C4 BK1479.out 4).trans rfl,(cl_ HB.out hw1485_0 :),(cl_ HB.out hw1485_1 :),(cl_ HB.out hw1485_2 :),(cl_ HB.out hw1485_3 :),(cl_ HB.out hw1485_4 :)⟩ (fun hHeld=>?_)
          clear hK K;refine A0l (a':=?_) ?_ ?_
          rotate_left
          ·
           show Act.put _ (some 27) _=_
           exact sp_
          refine pu_ 11 28 HT_.out (ba_ 13 4095) ?_;refine pu_ 12 29 HT_.out (ba_ 13 8191) ?_;refine A9d (A3i HT_.out kr_) ?_
          try go_wp2
          go_meet
          case rel=>exact ⟨_,(x6_2),(rs_),H',⟨by have:=HJ2.out;have:=HK2.out;first | omega | exact Nat.le_refl _⟩,⟨pb_ BK1479.out⟩,⟨bg_ GE1479.out⟩⟩
        ·
         rw [if_neg c18] at H;exact absurd H (by simp)
       ·
        rw [if_neg c17] at H;have c17b0:decide (x6_2<(l0.length:Int))=false:=decide_eq_false c17;clear c17;(first | rw [c17b0] | (simp only [A2z,A7a];rw [c17b0]) | skip)
        have H':=B0.mk H;clear H;try go_wp2
        have n_:=as2_ (A0n BK1479.out) (Q5 HB.out);clear BK1479 HB;obtain ⟨BK1479,HB⟩:=n_;refine A3m (n:=13) (S:=fun w'=>True) (ds:=[]) (ba_ 13 0) kr_ rfl rfl trivial (fun hHeld=>?_);refine A0t D1.tab4 D1.bits4 (fun HT_ HW_=>?_)
        generalize wr.drew=w25 at BK1479 HB hHeld ⊢
        refine pu_ 0 17 HT_.out (ba_ 13 1) ?_;refine pu_ 1 18 HT_.out (ba_ 13 3) ?_;refine pu_ 2 19 HT_.out (ba_ 13 7) ?_;refine pu_ 3 20 HT_.out (ba_ 13 15) ?_;refine pu_ 4 21 HT_.out (ba_ 13 31) ?_;refine sk_ 5 22 HT_.out (ba_ 13 63) ?_;refine sk_ 6 23 HT_.out (ba_ 13 127) ?_;refine sk_ 7 24 HT_.out (ba_ 13 255) ?_;refine sk_ 8 25 HT_.out (ba_ 13 511) ?_;refine sk_ 9 26 HT_.out (ba_ 13 1023) ?_;refine sk_ 10 27 HT_.out (ba_ 13 2047) ?_;refine sk_ 11 28 HT_.out (ba_ 13 4095) ?_;refine pu_ 12 29 HT_.out (ba_ 13 8191) ?_;refine A9d (A3i HT_.out kr_) ?_
        try go_wp2
        go_meet
        case rel=>exact ⟨_,(x6_2),(rs_),H',⟨by have:=HJ2.out;have:=HK2.out;first | omega | exact Nat.le_refl _⟩,⟨pb_ BK1479.out⟩,⟨bg_ GE1479.out⟩⟩
    case rest=>
     clear HC16;(try clear c1);(try clear p1);(try clear q1);(try clear hx1);(try clear c2);(try clear p2);(try clear c5);(try clear c6);(try clear p6);(try clear c9);(try clear c11);(try clear c13);(try clear p14);(try clear q14);(try clear hx14);(try clear c15);(try clear c17b0);(try clear c18b0);(try clear c20b0);(try clear hx1485_0);(try clear hx1485_1);(try clear hx1485_2);(try clear hx1485_3);(try clear hx1485_4);(try clear p1485);(try clear p2);(try clear q1485);obtain ⟨kq,x6_15,rfl,HA,HJ15,BK1479,HB⟩:=hcut
     cases kq with
     | zero=>exact absurd HA.out (by simp [D1.j2])
     | succ kj15=>
      have H:=HA.out;clear HA;simp only [D1.j2] at H;replace H:=Option.bind_eq_some_iff.mp H;obtain ⟨t1487,A260,H⟩:=H;have A26:=B0.mk A260;clear A260;obtain ⟨y1490,hy1490⟩:∃ y_:List (S110),y_=(([(⟨a1_0,a1_1,a1_2,a1_3,a1_4⟩:S110)]:List (S110))):=⟨_,rfl⟩;replace H:((G7.f t1487 x6_15 y1490).bind fun t1493=>((A9.f t1493).bind fun t1496=>(if t1496=true then (some (t1493,0)) else ((J1.f l0).bind fun t1497=>(some (t1497,3))))))=some (r1,r2):=rh_ hy1490 H;have Ny1490:=B0.mk hy1490;clear hy1490;replace H:=Option.bind_eq_some_iff.mp H;obtain ⟨t1493,A270,H⟩:=H;have A27:=B0.mk A270;clear A270;replace H:=Option.bind_eq_some_iff.mp H;obtain ⟨t1496,A280,H⟩:=H;have A28:=B0.mk A280;clear A280
      by_cases c29:t1496=true
      ·
       subst c29;replace H:=Eq.trans (if_pos rfl).symm H;simp only [Option.some.injEq,Prod.mk.injEq] at H;obtain ⟨rfl,rfl⟩:=H;try go_wp2
       have n_:=as2_ (A0n BK1479.out) (Q5 HB.out);clear BK1479 HB;obtain ⟨BK1479,HB⟩:=n_;refine A3m (n:=7) (S:=sr5_ gb1479 (.int .i64 a1_0) (.int .i64 a1_1) (.int .i64 a1_2) (.int .i64 a1_3) (.int .i64 a1_4)) (ds:=[]) (ba_ 7 0) kr_ rfl rfl (cf5_ BK1479.out) (fun hHeld=>?_)
       generalize wc.drew=w30 at BK1479 HB hHeld ⊢
       refine B0i (i:=0) (N:=some 32) (v:=?_) (a':=?_) (ba_ 7 1) rfl rfl kr_ (fun _ _ _ h=>h) (Or.inl ⟨by rfl,?_⟩) ?_ ?_
       rotate_left
       ·
        intro w'
        go_simp;with_reducible rfl
       rotate_left
       ·
        exact sp_
       refine B0i (i:=2) (N:=some 34) (v:=?_) (a':=?_) (ba_ 7 5) rfl rfl kr_ (fun _ _ _ h=>h) (Or.inl ⟨by rfl,?_⟩) ?_ ?_
       rotate_left
       ·
        intro w'
        go_simp;with_reducible rfl
       rotate_left
       ·
        exact sp_
       refine C6k (i:=3) (N:=some 35) (v:=?_) (a':=?_) (ba_ 7 13) rfl rfl kr_ (fun _ _ _ h=>h) (Or.inl ⟨by rfl,?_⟩) hHeld ?_ ?_
       rotate_left
       ·
        rintro w' ⟨s0,s1,s2,s3,s4⟩;go_simp;with_reducible rfl
       rotate_left
       ·
        exact sp_
       refine C9q (σ:=Value×Value) 2 (ba_ 7 31) (fun s_=>[(33,s_.1),(36,s_.2)]) (fun s_ w'=>(w'.cell? ⟨gb1479,0,none⟩=some (.int .i64 a1_0)∧w'.cell? ⟨gb1479,1,none⟩=some (.int .i64 a1_1)∧w'.cell? ⟨gb1479,2,none⟩=some (.int .i64 a1_2)∧w'.cell? ⟨gb1479,3,none⟩=some (.int .i64 a1_3)∧w'.cell? ⟨gb1479,4,none⟩=some (.int .i64 a1_4))∧(Kd.R k110 110 w' w.heap.size (fun k_=>some k_≠(s_.2:Value).ownBlock∧k_≠gb1479) s_.1 t1487)∧(Kd.R k110 110 w' w.heap.size (fun k_=>some k_≠(s_.1:Value).ownBlock∧k_≠gb1479) s_.2 y1490)∧(w'.heap[gb1479]? = some (.cells #[.int .i64 a1_0,.int .i64 a1_1,.int .i64 a1_2,.int .i64 a1_3,.int .i64 a1_4] 110 (0,0)))∧(Below w.heap.size w w')) ?_ ?_
       rotate_left
       ·
        intro hCont
        refine two_ (i:=1) (j:=4) (Ni:=some 33) (Nj:=some 36) (ba_ 7 15) (ba_ 7 29) rfl rfl rfl rfl kr_ (by decide) (by decide) (fun K hK=>?_) (fun K hK=>?_)
        ·
         skip
         refine A4c Tryz.func100 kr_ rfl #[.slice A0 l0.length c0] (by rfl) rfl rfl (bc_) ?_
         with_reducible refine (J1.calls _ _ l0 t1487 _ ?side1 ?side2 A26.out).mono ?_
         (case side1=>exact cc_ (Kd.C_below HR0.out HB.out))
         (case side2=>exact HC0.out)
         rintro e w31 ⟨v1488,rfl,ho0,hb⟩;refine ⟨_,rfl,?_⟩
         have n_:=as3_ (Kd.R_lower (Kd.R_newB ho0 (g:=gb1479) (o:=.cells #[.int .i64 a1_0,.int .i64 a1_1,.int .i64 a1_2,.int .i64 a1_3,.int .i64 a1_4] 110 (0,0)) (pb_ BK1479.out)) (G4 (bg_ GE1479.out))) (bl_ BK1479.out hb) (D0 (bg_ GE1479.out) hb);clear BK1479 HB;obtain ⟨HO1489,BK1479,HB⟩:=n_





         refine hK.out _ _ (cf5_ BK1479.out) (fun hHeld=>?_)
         clear hK K;refine A0l (a':=?_) ?_ ?_
         rotate_left
         ·
          show Act.put _ (some 33) _=_
          exact sp_
         refine one_ (i:=4) (N:=some 36) (ba_ 7 31) rfl rfl kr_ (by decide) (fun K hK=>?_)
         refine Kd.R_lit_step k110 _ 110 ?hg (N:=36) ?hd (xs:=([(⟨a1_0,a1_1,a1_2,a1_3,a1_4⟩:S110)]:List (S110))) (inner:=[.int .i64 a1_0,.int .i64 a1_1,.int .i64 a1_2,.int .i64 a1_3,.int .i64 a1_4]) (ok:=fun _=>True) (okp:=fun _=>True) ?hr ?hp (fun _ hk=>hk) trivial (Below.refl _ _) (Nat.le_refl _) (by simp) ?_;(case hd=>rfl);(case hg=>rfl);(case hr=>first | (go_simp;done) | (go_simp;rfl));(case hp=>exact (Reps.c5 (show Kd.M k110 _ _ _ (⟨a1_0,a1_1,a1_2,a1_3,a1_4⟩:S110) [.int .i64 a1_0,.int .i64 a1_1,.int .i64 a1_2,.int .i64 a1_3,.int .i64 a1_4] from (A1a _ _ _ (⟨a1_0,a1_1,a1_2,a1_3,a1_4⟩:S110) )) (Reps.none _ _)))
         intro v1491 w32 ho33 hb hg_ hnew_
         clear hg_ hnew_;(first | rw [← Ny1490.out] at ho33 | (simp only [Int.reduceToNat] at ho33;rw [← Ny1490.out] at ho33))
         have n_:=as4_ (Kd.R_elder' (pe_ HO1489.out) (Kd.R_base ho33) hb) (Kd.R_lower (Kd.R_newB (Kd.R_new' ho33 (Kd.R_lt (pe_ HO1489.out))) (g:=gb1479) (o:=.cells #[.int .i64 a1_0,.int .i64 a1_1,.int .i64 a1_2,.int .i64 a1_3,.int .i64 a1_4] 110 (0,0)) (pb_ BK1479.out)) (G4 (bg_ GE1479.out))) (bl_ BK1479.out hb) (D0 (bg_ GE1479.out) hb);clear HO1489 BK1479 HB;obtain ⟨HO1489,HO1492,BK1479,HB⟩:=n_;clear hb ho33;refine hK.out _ _ (cf5_ BK1479.out) (fun hHeld=>?_)
         clear hK K;refine A0l (a':=?_) ?_ ?_
         rotate_left
         ·
          show Act.put _ (some 36) _=_
          exact sp_
         exact A0l (by simp only [A3t,Act.put,List.setIfInBounds_toArray,List.set_cons_zero,List.set_cons_succ]) (hCont (v1488,v1491) _ ⟨hHeld,(by (with_reducible repeat (first | apply Kd.R_alloc | apply Kd.R_drewN | apply Kd.R_drew));exact Kd.R_mono HO1489.out (fun _ hk=>⟨hk.2,hk.1.2⟩)),(by (with_reducible repeat (first | apply Kd.R_alloc | apply Kd.R_drewN | apply Kd.R_drew));exact Kd.R_mono HO1492.out (fun _ hk=>⟨hk.1.2,hk.2⟩)),(pb_ BK1479.out),(bg_ GE1479.out)⟩)
        ·
         skip
         refine Kd.R_lit_step k110 _ 110 ?hg (N:=36) ?hd (xs:=([(⟨a1_0,a1_1,a1_2,a1_3,a1_4⟩:S110)]:List (S110))) (inner:=[.int .i64 a1_0,.int .i64 a1_1,.int .i64 a1_2,.int .i64 a1_3,.int .i64 a1_4]) (ok:=fun _=>True) (okp:=fun _=>True) ?hr ?hp (fun _ hk=>hk) trivial (Below.refl _ _) (Nat.le_refl _) (by simp) ?_;(case hd=>rfl);(case hg=>rfl);(case hr=>first | (go_simp;done) | (go_simp;rfl));(case hp=>exact (Reps.c5 (show Kd.M k110 _ _ _ (⟨a1_0,a1_1,a1_2,a1_3,a1_4⟩:S110) [.int .i64 a1_0,.int .i64 a1_1,.int .i64 a1_2,.int .i64 a1_3,.int .i64 a1_4] from (A1a _ _ _ (⟨a1_0,a1_1,a1_2,a1_3,a1_4⟩:S110) )) (Reps.none _ _)))
         intro v1491 w31 ho32 hb hg_ hnew_
         clear hg_ hnew_;(first | rw [← Ny1490.out] at ho32 | (simp only [Int.reduceToNat] at ho32;rw [← Ny1490.out] at ho32))
         have n_:=as3_ (Kd.R_lower (Kd.R_newB ho32 (g:=gb1479) (o:=.cells #[.int .i64 a1_0,.int .i64 a1_1,.int .i64 a1_2,.int .i64 a1_3,.int .i64 a1_4] 110 (0,0)) (pb_ BK1479.out)) (G4 (bg_ GE1479.out))) (bl_ BK1479.out hb) (D0 (bg_ GE1479.out) hb);clear BK1479 HB;obtain ⟨HO1492,BK1479,HB⟩:=n_;clear hb ho32;refine hK.out _ _ (cf5_ BK1479.out) (fun hHeld=>?_)
         clear hK K;refine A0l (a':=?_) ?_ ?_
         rotate_left
         ·
          show Act.put _ (some 36) _=_
          exact sp_
         refine one_ (i:=1) (N:=some 33) (ba_ 7 31) rfl rfl kr_ (by decide) (fun K hK=>?_)
         refine A4c Tryz.func100 kr_ rfl #[.slice A0 l0.length c0] (by rfl) rfl rfl (bc_) ?_
         with_reducible refine (J1.calls _ _ l0 t1487 _ ?side1 ?side2 A26.out).mono ?_
         (case side1=>exact cc_ (Kd.C_below HR0.out HB.out))
         (case side2=>exact HC0.out)
         rintro e w33 ⟨v1488,rfl,ho0,hb⟩;refine ⟨_,rfl,?_⟩
         have n_:=as4_ (Kd.R_elder' (pe_ HO1492.out) (Kd.R_base ho0) hb) (Kd.R_lower (Kd.R_newB (Kd.R_new' ho0 (Kd.R_lt (pe_ HO1492.out))) (g:=gb1479) (o:=.cells #[.int .i64 a1_0,.int .i64 a1_1,.int .i64 a1_2,.int .i64 a1_3,.int .i64 a1_4] 110 (0,0)) (pb_ BK1479.out)) (G4 (bg_ GE1479.out))) (bl_ BK1479.out hb) (D0 (bg_ GE1479.out) hb);clear HO1492 BK1479 HB;obtain ⟨HO1492,HO1489,BK1479,HB⟩:=n_





         refine hK.out _ _ (cf5_ BK1479.out) (fun hHeld=>?_)
         clear hK K;refine A0l (a':=?_) ?_ ?_
         rotate_left
         ·
          show Act.put _ (some 33) _=_
          exact sp_
         exact A0l (by simp only [A3t,Act.put,List.setIfInBounds_toArray,List.set_cons_zero,List.set_cons_succ]) (hCont (v1488,v1491) _ ⟨hHeld,(by (with_reducible repeat (first | apply Kd.R_alloc | apply Kd.R_drewN | apply Kd.R_drew));exact Kd.R_mono HO1489.out (fun _ hk=>⟨hk.1.2,hk.2⟩)),(by (with_reducible repeat (first | apply Kd.R_alloc | apply Kd.R_drewN | apply Kd.R_drew));exact Kd.R_mono HO1492.out (fun _ hk=>⟨hk.2,hk.1.2⟩)),(pb_ BK1479.out),(bg_ GE1479.out)⟩)
       rintro ⟨v1488,v1491⟩ w34 ⟨hS_,h0_,h1_,h2_,h3_⟩;have n0_:B0 (Kd.R k110 110 w34 w.heap.size (fun k_=>some k_≠(v1491:Value).ownBlock∧k_≠gb1479) v1488 t1487):=⟨h0_⟩;have n1_:B0 (Kd.R k110 110 w34 w.heap.size (fun k_=>some k_≠(v1488:Value).ownBlock∧k_≠gb1479) v1491 y1490):=⟨h1_⟩;have n2_:B0 (w34.heap[gb1479]? = some (.cells #[.int .i64 a1_0,.int .i64 a1_1,.int .i64 a1_2,.int .i64 a1_3,.int .i64 a1_4] 110 (0,0))):=⟨h2_⟩;have n3_:B0 (Below w.heap.size w w34):=⟨h3_⟩;clear BK1479;clear HB;clear h0_ h1_ h2_ h3_;have HO1489:=n0_;have HO1492:=n1_;have BK1479:=n2_;have HB:=n3_;clear n0_ n1_ n2_ n3_;have hHeld:w34.cell? ⟨gb1479,0,none⟩=some (.int .i64 a1_0)∧w34.cell? ⟨gb1479,1,none⟩=some (.int .i64 a1_1)∧w34.cell? ⟨gb1479,2,none⟩=some (.int .i64 a1_2)∧w34.cell? ⟨gb1479,3,none⟩=some (.int .i64 a1_3)∧w34.cell? ⟨gb1479,4,none⟩=some (.int .i64 a1_4):=hS_;obtain ⟨Ao35,co35,eo35⟩:=Kd.R_slice HO1489.out;(first | subst eo35 | (injection eo35 with f1_ f2_ f3_;have f4_:=f1_.symm;have f5_:=f3_.symm;clear f1_ f2_ f3_;subst f4_;subst f5_))
       obtain ⟨Ao36,co36,eo36⟩:=Kd.R_slice HO1492.out;(first | subst eo36 | (injection eo36 with f1_ f2_ f3_;have f4_:=f1_.symm;have f5_:=f3_.symm;clear f1_ f2_ f3_;subst f4_;subst f5_))
       refine A0l (a':=?_) ?_ ?_
       rotate_left
       ·
        simp only [A3t,Act.put,List.setIfInBounds_toArray,List.set_cons_zero,List.set_cons_succ]
        rfl
       refine one_ (i:=5) (N:=some 37) (ba_ 7 63) rfl rfl kr_ (by decide) (fun K hK=>?_)
       refine A4c Tryz.func159 kr_ rfl #[.slice Ao35 t1487.length co35,.int .i64 x6_15,.slice Ao36 y1490.length co36] (by rfl) rfl rfl (bc_) ?_
       with_reducible refine (G7.calls (fun k_=>some k_=(.slice Ao35 t1487.length co35:Value).ownBlock) (.slice Ao35 t1487.length co35) t1487 x6_15 (fun k_=>some k_=(.slice Ao36 y1490.length co36:Value).ownBlock) (.slice Ao36 y1490.length co36) y1490 t1493 w _ ?side1 ?side2 ?side3 ?side4 ?side5 A27.out).mono ?_
       (case side1=>repeat (first | (with_reducible first | exact HB.out | apply I8 | apply Q2 | apply Q5 | refine A6p ?_ GE1479.out) | exact HB.out))
       (case side2=>exact Kd.R_tight rfl HO1489.out)
       (case side3=>exact fun k_ e_=>(HO1489.out.1 k_ e_.symm).1)
       (case side4=>exact Kd.R_tight rfl HO1492.out)
       (case side5=>exact fun k_ e_=>(HO1492.out.1 k_ e_.symm).1)
       rintro e w37 ⟨v1494,rfl,ho0,hb,hkp⟩;refine ⟨_,rfl,?_⟩
       have n_:=as3_ (B5v (pb_ BK1479.out) hkp (fun hs_=>Or.elim hs_ (fun e_=>(fun e_=>(Kd.R_away HO1489.out (fun _ hk=>hk.2)) e_) e_) (fun e_=>(fun e_=>(Kd.R_away HO1492.out (fun _ hk=>hk.2)) e_) e_))) (Kd.R_mono (ok':=fun k_=>k_≠gb1479) ho0 (fun k_ hk_=>Or.elim hk_ (fun hs_=>Or.elim hs_ (fun hs_=>fun e_=>(Kd.R_away HO1489.out (fun _ hk=>hk.2)) (by rw [← e_];exact hs_)) (fun hs_=>fun e_=>(Kd.R_away HO1492.out (fun _ hk=>hk.2)) (by rw [← e_];exact hs_))) (fun hn_=>(Kd.freshB (g:=gb1479) (o:=.cells #[.int .i64 a1_0,.int .i64 a1_1,.int .i64 a1_2,.int .i64 a1_3,.int .i64 a1_4] 110 (0,0)) (pb_ BK1479.out) k_ hn_)))) (hb)
       clear BK1479 HB HO1489 HO1492;obtain ⟨BK1479,HO1495,HB⟩:=n_



       refine hK.out _ _ (cf5_ BK1479.out) (fun hHeld=>?_)
       clear hK K;refine A0l (a':=?_) ?_ ?_
       rotate_left
       ·
        show Act.put _ (some 37) _=_
        exact sp_
       refine B0i (i:=6) (N:=some 7) (v:=?_) (a':=?_) (ba_ 7 127) rfl rfl kr_ (fun _ _ _ h=>h) (Or.inl ⟨by rfl,?_⟩) ?_ ?_
       rotate_left
       ·
        intro w'
        go_simp;with_reducible rfl
       rotate_left
       ·
        exact sp_
       refine A9d kr_ ?_
       obtain ⟨Ao38,co38,eo38⟩:=Kd.R_slice HO1495.out;subst eo38;try go_wp2_with (first | ((with_reducible refine M3 (f:=92) rfl ?_);refine V6 (some 39) rfl rfl Tryz.func92 kr_ rfl #[.slice Ao38 t1493.length co38] rfl (bc_) ?_;(with_reducible refine (A9.calls _ _ t1493 true _ ?side1 ?side2 A28.out).mono ?_);(case side1=>exact cc_ (Kd.R_reads' HO1495.out).2.2);(case side2=>exact (Kd.R_reads' HO1495.out).2.1);rintro e w39 ⟨rfl,hb⟩;refine ⟨_,rfl,?_⟩;have n_:=as3_ (Kd.R_below (pe_ HO1495.out) hb) (bl_ BK1479.out hb) (D0 (bg_ GE1479.out) hb);clear HO1495 BK1479 HB;obtain ⟨HO1495,BK1479,HB⟩:=n_;(try clear hb)))
       go_ret2;exact ⟨_,er_,by (with_reducible repeat (first | apply Kd.R_alloc | apply Kd.R_drewN | apply Kd.R_drew));exact Kd.R_mono HO1495.out (fun _ hk=>trivial),bg_ GE1479.out⟩
      ·
       replace c29:=Bool.eq_false_iff.mpr c29;subst c29;replace H:=Eq.trans (if_neg nf_).symm H;replace H:=Option.bind_eq_some_iff.mp H;obtain ⟨t1497,A400,H⟩:=H;have A40:=B0.mk A400;clear A400;simp only [Option.some.injEq,Prod.mk.injEq] at H;obtain ⟨rfl,rfl⟩:=H;try go_wp2
       have n_:=as2_ (A0n BK1479.out) (Q5 HB.out);clear BK1479 HB;obtain ⟨BK1479,HB⟩:=n_;refine A3m (n:=7) (S:=sr5_ gb1479 (.int .i64 a1_0) (.int .i64 a1_1) (.int .i64 a1_2) (.int .i64 a1_3) (.int .i64 a1_4)) (ds:=[]) (ba_ 7 0) kr_ rfl rfl (cf5_ BK1479.out) (fun hHeld=>?_)
       generalize wc.drew=w41 at BK1479 HB hHeld ⊢
       refine B0i (i:=0) (N:=some 32) (v:=?_) (a':=?_) (ba_ 7 1) rfl rfl kr_ (fun _ _ _ h=>h) (Or.inl ⟨by rfl,?_⟩) ?_ ?_
       rotate_left
       ·
        intro w'
        go_simp;with_reducible rfl
       rotate_left
       ·
        exact sp_
       refine B0i (i:=2) (N:=some 34) (v:=?_) (a':=?_) (ba_ 7 5) rfl rfl kr_ (fun _ _ _ h=>h) (Or.inl ⟨by rfl,?_⟩) ?_ ?_
       rotate_left
       ·
        intro w'
        go_simp;with_reducible rfl
       rotate_left
       ·
        exact sp_
       refine C6k (i:=3) (N:=some 35) (v:=?_) (a':=?_) (ba_ 7 13) rfl rfl kr_ (fun _ _ _ h=>h) (Or.inl ⟨by rfl,?_⟩) hHeld ?_ ?_
       rotate_left
       ·
        rintro w' ⟨s0,s1,s2,s3,s4⟩;go_simp;with_reducible rfl
       rotate_left
       ·
        exact sp_
       refine C9q (σ:=Value×Value) 2 (ba_ 7 31) (fun s_=>[(33,s_.1),(36,s_.2)]) (fun s_ w'=>(w'.cell? ⟨gb1479,0,none⟩=some (.int .i64 a1_0)∧w'.cell? ⟨gb1479,1,none⟩=some (.int .i64 a1_1)∧w'.cell? ⟨gb1479,2,none⟩=some (.int .i64 a1_2)∧w'.cell? ⟨gb1479,3,none⟩=some (.int .i64 a1_3)∧w'.cell? ⟨gb1479,4,none⟩=some (.int .i64 a1_4))∧(Kd.R k110 110 w' w.heap.size (fun k_=>some k_≠(s_.2:Value).ownBlock∧k_≠gb1479) s_.1 t1487)∧(Kd.R k110 110 w' w.heap.size (fun k_=>some k_≠(s_.1:Value).ownBlock∧k_≠gb1479) s_.2 y1490)∧(w'.heap[gb1479]? = some (.cells #[.int .i64 a1_0,.int .i64 a1_1,.int .i64 a1_2,.int .i64 a1_3,.int .i64 a1_4] 110 (0,0)))∧(Below w.heap.size w w')) ?_ ?_
       rotate_left
       ·
        intro hCont
        refine two_ (i:=1) (j:=4) (Ni:=some 33) (Nj:=some 36) (ba_ 7 15) (ba_ 7 29) rfl rfl rfl rfl kr_ (by decide) (by decide) (fun K hK=>?_) (fun K hK=>?_)
        ·
         skip
         refine A4c Tryz.func100 kr_ rfl #[.slice A0 l0.length c0] (by rfl) rfl rfl (bc_) ?_
         with_reducible refine (J1.calls _ _ l0 t1487 _ ?side1 ?side2 A26.out).mono ?_
         (case side1=>exact cc_ (Kd.C_below HR0.out HB.out))
         (case side2=>exact HC0.out)
         rintro e w42 ⟨v1488,rfl,ho0,hb⟩;refine ⟨_,rfl,?_⟩
         have n_:=as3_ (Kd.R_lower (Kd.R_newB ho0 (g:=gb1479) (o:=.cells #[.int .i64 a1_0,.int .i64 a1_1,.int .i64 a1_2,.int .i64 a1_3,.int .i64 a1_4] 110 (0,0)) (pb_ BK1479.out)) (G4 (bg_ GE1479.out))) (bl_ BK1479.out hb) (D0 (bg_ GE1479.out) hb);clear BK1479 HB;obtain ⟨HO1489,BK1479,HB⟩:=n_





         refine hK.out _ _ (cf5_ BK1479.out) (fun hHeld=>?_)
         clear hK K;refine A0l (a':=?_) ?_ ?_
         rotate_left
         ·
          show Act.put _ (some 33) _=_
          exact sp_
         refine one_ (i:=4) (N:=some 36) (ba_ 7 31) rfl rfl kr_ (by decide) (fun K hK=>?_)
         refine Kd.R_lit_step k110 _ 110 ?hg (N:=36) ?hd (xs:=([(⟨a1_0,a1_1,a1_2,a1_3,a1_4⟩:S110)]:List (S110))) (inner:=[.int .i64 a1_0,.int .i64 a1_1,.int .i64 a1_2,.int .i64 a1_3,.int .i64 a1_4]) (ok:=fun _=>True) (okp:=fun _=>True) ?hr ?hp (fun _ hk=>hk) trivial (Below.refl _ _) (Nat.le_refl _) (by simp) ?_;(case hd=>rfl);(case hg=>rfl);(case hr=>first | (go_simp;done) | (go_simp;rfl));(case hp=>exact (Reps.c5 (show Kd.M k110 _ _ _ (⟨a1_0,a1_1,a1_2,a1_3,a1_4⟩:S110) [.int .i64 a1_0,.int .i64 a1_1,.int .i64 a1_2,.int .i64 a1_3,.int .i64 a1_4] from (A1a _ _ _ (⟨a1_0,a1_1,a1_2,a1_3,a1_4⟩:S110) )) (Reps.none _ _)))
         intro v1491 w43 ho44 hb hg_ hnew_
         clear hg_ hnew_;(first | rw [← Ny1490.out] at ho44 | (simp only [Int.reduceToNat] at ho44;rw [← Ny1490.out] at ho44))
         have n_:=as4_ (Kd.R_elder' (pe_ HO1489.out) (Kd.R_base ho44) hb) (Kd.R_lower (Kd.R_newB (Kd.R_new' ho44 (Kd.R_lt (pe_ HO1489.out))) (g:=gb1479) (o:=.cells #[.int .i64 a1_0,.int .i64 a1_1,.int .i64 a1_2,.int .i64 a1_3,.int .i64 a1_4] 110 (0,0)) (pb_ BK1479.out)) (G4 (bg_ GE1479.out))) (bl_ BK1479.out hb) (D0 (bg_ GE1479.out) hb);clear HO1489 BK1479 HB;obtain ⟨HO1489,HO1492,BK1479,HB⟩:=n_;clear hb ho44;refine hK.out _ _ (cf5_ BK1479.out) (fun hHeld=>?_)
         clear hK K;refine A0l (a':=?_) ?_ ?_
         rotate_left
         ·
          show Act.put _ (some 36) _=_
          exact sp_
         exact A0l (by simp only [A3t,Act.put,List.setIfInBounds_toArray,List.set_cons_zero,List.set_cons_succ]) (hCont (v1488,v1491) _ ⟨hHeld,(by (with_reducible repeat (first | apply Kd.R_alloc | apply Kd.R_drewN | apply Kd.R_drew));exact Kd.R_mono HO1489.out (fun _ hk=>⟨hk.2,hk.1.2⟩)),(by (with_reducible repeat (first | apply Kd.R_alloc | apply Kd.R_drewN | apply Kd.R_drew));exact Kd.R_mono HO1492.out (fun _ hk=>⟨hk.1.2,hk.2⟩)),(pb_ BK1479.out),(bg_ GE1479.out)⟩)
        ·
         skip
         refine Kd.R_lit_step k110 _ 110 ?hg (N:=36) ?hd (xs:=([(⟨a1_0,a1_1,a1_2,a1_3,a1_4⟩:S110)]:List (S110))) (inner:=[.int .i64 a1_0,.int .i64 a1_1,.int .i64 a1_2,.int .i64 a1_3,.int .i64 a1_4]) (ok:=fun _=>True) (okp:=fun _=>True) ?hr ?hp (fun _ hk=>hk) trivial (Below.refl _ _) (Nat.le_refl _) (by simp) ?_;(case hd=>rfl);(case hg=>rfl);(case hr=>first | (go_simp;done) | (go_simp;rfl));(case hp=>exact (Reps.c5 (show Kd.M k110 _ _ _ (⟨a1_0,a1_1,a1_2,a1_3,a1_4⟩:S110) [.int .i64 a1_0,.int .i64 a1_1,.int .i64 a1_2,.int .i64 a1_3,.int .i64 a1_4] from (A1a _ _ _ (⟨a1_0,a1_1,a1_2,a1_3,a1_4⟩:S110) )) (Reps.none _ _)))
         intro v1491 w42 ho43 hb hg_ hnew_
         clear hg_ hnew_;(first | rw [← Ny1490.out] at ho43 | (simp only [Int.reduceToNat] at ho43;rw [← Ny1490.out] at ho43))
         have n_:=as3_ (Kd.R_lower (Kd.R_newB ho43 (g:=gb1479) (o:=.cells #[.int .i64 a1_0,.int .i64 a1_1,.int .i64 a1_2,.int .i64 a1_3,.int .i64 a1_4] 110 (0,0)) (pb_ BK1479.out)) (G4 (bg_ GE1479.out))) (bl_ BK1479.out hb) (D0 (bg_ GE1479.out) hb);clear BK1479 HB;obtain ⟨HO1492,BK1479,HB⟩:=n_;clear hb ho43;refine hK.out _ _ (cf5_ BK1479.out) (fun hHeld=>?_)
         clear hK K;refine A0l (a':=?_) ?_ ?_
         rotate_left
         ·
          show Act.put _ (some 36) _=_
          exact sp_
         refine one_ (i:=1) (N:=some 33) (ba_ 7 31) rfl rfl kr_ (by decide) (fun K hK=>?_)
         refine A4c Tryz.func100 kr_ rfl #[.slice A0 l0.length c0] (by rfl) rfl rfl (bc_) ?_
         with_reducible refine (J1.calls _ _ l0 t1487 _ ?side1 ?side2 A26.out).mono ?_
         (case side1=>exact cc_ (Kd.C_below HR0.out HB.out))
         (case side2=>exact HC0.out)
         rintro e w44 ⟨v1488,rfl,ho0,hb⟩;refine ⟨_,rfl,?_⟩
         have n_:=as4_ (Kd.R_elder' (pe_ HO1492.out) (Kd.R_base ho0) hb) (Kd.R_lower (Kd.R_newB (Kd.R_new' ho0 (Kd.R_lt (pe_ HO1492.out))) (g:=gb1479) (o:=.cells #[.int .i64 a1_0,.int .i64 a1_1,.int .i64 a1_2,.int .i64 a1_3,.int .i64 a1_4] 110 (0,0)) (pb_ BK1479.out)) (G4 (bg_ GE1479.out))) (bl_ BK1479.out hb) (D0 (bg_ GE1479.out) hb);clear HO1492 BK1479 HB;obtain ⟨HO1492,HO1489,BK1479,HB⟩:=n_





         refine hK.out _ _ (cf5_ BK1479.out) (fun hHeld=>?_)
         clear hK K;refine A0l (a':=?_) ?_ ?_
         rotate_left
         ·
          show Act.put _ (some 33) _=_
          exact sp_
         exact A0l (by simp only [A3t,Act.put,List.setIfInBounds_toArray,List.set_cons_zero,List.set_cons_succ]) (hCont (v1488,v1491) _ ⟨hHeld,(by (with_reducible repeat (first | apply Kd.R_alloc | apply Kd.R_drewN | apply Kd.R_drew));exact Kd.R_mono HO1489.out (fun _ hk=>⟨hk.1.2,hk.2⟩)),(by (with_reducible repeat (first | apply Kd.R_alloc | apply Kd.R_drewN | apply Kd.R_drew));exact Kd.R_mono HO1492.out (fun _ hk=>⟨hk.2,hk.1.2⟩)),(pb_ BK1479.out),(bg_ GE1479.out)⟩)
       rintro ⟨v1488,v1491⟩ w45 ⟨hS_,h0_,h1_,h2_,h3_⟩;have n0_:B0 (Kd.R k110 110 w45 w.heap.size (fun k_=>some k_≠(v1491:Value).ownBlock∧k_≠gb1479) v1488 t1487):=⟨h0_⟩;have n1_:B0 (Kd.R k110 110 w45 w.heap.size (fun k_=>some k_≠(v1488:Value).ownBlock∧k_≠gb1479) v1491 y1490):=⟨h1_⟩;have n2_:B0 (w45.heap[gb1479]? = some (.cells #[.int .i64 a1_0,.int .i64 a1_1,.int .i64 a1_2,.int .i64 a1_3,.int .i64 a1_4] 110 (0,0))):=⟨h2_⟩;have n3_:B0 (Below w.heap.size w w45):=⟨h3_⟩;clear BK1479;clear HB;clear h0_ h1_ h2_ h3_;have HO1489:=n0_;have HO1492:=n1_;have BK1479:=n2_;have HB:=n3_;clear n0_ n1_ n2_ n3_;have hHeld:w45.cell? ⟨gb1479,0,none⟩=some (.int .i64 a1_0)∧w45.cell? ⟨gb1479,1,none⟩=some (.int .i64 a1_1)∧w45.cell? ⟨gb1479,2,none⟩=some (.int .i64 a1_2)∧w45.cell? ⟨gb1479,3,none⟩=some (.int .i64 a1_3)∧w45.cell? ⟨gb1479,4,none⟩=some (.int .i64 a1_4):=hS_;obtain ⟨Ao46,co46,eo46⟩:=Kd.R_slice HO1489.out;(first | subst eo46 | (injection eo46 with f1_ f2_ f3_;have f4_:=f1_.symm;have f5_:=f3_.symm;clear f1_ f2_ f3_;subst f4_;subst f5_))
       obtain ⟨Ao47,co47,eo47⟩:=Kd.R_slice HO1492.out;(first | subst eo47 | (injection eo47 with f1_ f2_ f3_;have f4_:=f1_.symm;have f5_:=f3_.symm;clear f1_ f2_ f3_;subst f4_;subst f5_))
       refine A0l (a':=?_) ?_ ?_
       rotate_left
       ·
        simp only [A3t,Act.put,List.setIfInBounds_toArray,List.set_cons_zero,List.set_cons_succ]
        rfl
       refine one_ (i:=5) (N:=some 37) (ba_ 7 63) rfl rfl kr_ (by decide) (fun K hK=>?_)
       refine A4c Tryz.func159 kr_ rfl #[.slice Ao46 t1487.length co46,.int .i64 x6_15,.slice Ao47 y1490.length co47] (by rfl) rfl rfl (bc_) ?_
       with_reducible refine (G7.calls (fun k_=>some k_=(.slice Ao46 t1487.length co46:Value).ownBlock) (.slice Ao46 t1487.length co46) t1487 x6_15 (fun k_=>some k_=(.slice Ao47 y1490.length co47:Value).ownBlock) (.slice Ao47 y1490.length co47) y1490 t1493 w _ ?side1 ?side2 ?side3 ?side4 ?side5 A27.out).mono ?_
       (case side1=>repeat (first | (with_reducible first | exact HB.out | apply I8 | apply Q2 | apply Q5 | refine A6p ?_ GE1479.out) | exact HB.out))
       (case side2=>exact Kd.R_tight rfl HO1489.out)
       (case side3=>exact fun k_ e_=>(HO1489.out.1 k_ e_.symm).1)
       (case side4=>exact Kd.R_tight rfl HO1492.out)
       (case side5=>exact fun k_ e_=>(HO1492.out.1 k_ e_.symm).1)
       rintro e w48 ⟨v1494,rfl,ho0,hb,hkp⟩;refine ⟨_,rfl,?_⟩
       have n_:=as3_ (B5v (pb_ BK1479.out) hkp (fun hs_=>Or.elim hs_ (fun e_=>(fun e_=>(Kd.R_away HO1489.out (fun _ hk=>hk.2)) e_) e_) (fun e_=>(fun e_=>(Kd.R_away HO1492.out (fun _ hk=>hk.2)) e_) e_))) (Kd.R_mono (ok':=fun k_=>k_≠gb1479) ho0 (fun k_ hk_=>Or.elim hk_ (fun hs_=>Or.elim hs_ (fun hs_=>fun e_=>(Kd.R_away HO1489.out (fun _ hk=>hk.2)) (by rw [← e_];exact hs_)) (fun hs_=>fun e_=>(Kd.R_away HO1492.out (fun _ hk=>hk.2)) (by rw [← e_];exact hs_))) (fun hn_=>(Kd.freshB (g:=gb1479) (o:=.cells #[.int .i64 a1_0,.int .i64 a1_1,.int .i64 a1_2,.int .i64 a1_3,.int .i64 a1_4] 110 (0,0)) (pb_ BK1479.out) k_ hn_)))) (hb)
       clear BK1479 HB HO1489 HO1492;obtain ⟨BK1479,HO1495,HB⟩:=n_



       refine hK.out _ _ (cf5_ BK1479.out) (fun hHeld=>?_)
       clear hK K;refine A0l (a':=?_) ?_ ?_
       rotate_left
       ·
        show Act.put _ (some 37) _=_
        exact sp_
       refine B0i (i:=6) (N:=some 7) (v:=?_) (a':=?_) (ba_ 7 127) rfl rfl kr_ (fun _ _ _ h=>h) (Or.inl ⟨by rfl,?_⟩) ?_ ?_
       rotate_left
       ·
        intro w'
        go_simp;with_reducible rfl
       rotate_left
       ·
        exact sp_
       refine A9d kr_ ?_
       obtain ⟨Ao49,co49,eo49⟩:=Kd.R_slice HO1495.out;subst eo49
       try go_wp2_with (first | ((with_reducible refine M3 (f:=92) rfl ?_);refine V6 (some 39) rfl rfl Tryz.func92 kr_ rfl #[.slice Ao49 t1493.length co49] rfl (bc_) ?_;(with_reducible refine (A9.calls _ _ t1493 false _ ?side1 ?side2 A28.out).mono ?_);(case side1=>exact cc_ (Kd.R_reads' HO1495.out).2.2);(case side2=>exact (Kd.R_reads' HO1495.out).2.1);rintro e w50 ⟨rfl,hb⟩;refine ⟨_,rfl,?_⟩;have n_:=as3_ (Kd.R_below (pe_ HO1495.out) hb) (bl_ BK1479.out hb) (D0 (bg_ GE1479.out) hb);clear HO1495 BK1479 HB;obtain ⟨HO1495,BK1479,HB⟩:=n_;(try clear hb)) | ((with_reducible refine M3 (f:=100) rfl ?_);refine V6 (some 42) rfl rfl Tryz.func100 kr_ rfl #[.slice A0 l0.length c0] rfl (bc_) ?_;(with_reducible refine (J1.calls _ _ l0 t1497 _ ?side1 ?side2 A40.out).mono ?_);(case side1=>exact cc_ (Kd.C_below HR0.out HB.out));(case side2=>exact HC0.out);rintro e w51 ⟨v1498,rfl,ho0,hb⟩;refine ⟨_,rfl,?_⟩;have n_:=as4_ (Kd.R_elder' (pe_ HO1495.out) (Kd.R_base ho0) hb) (Kd.R_lower (Kd.R_newB (Kd.R_new' ho0 (Kd.R_lt (pe_ HO1495.out))) (g:=gb1479) (o:=.cells #[.int .i64 a1_0,.int .i64 a1_1,.int .i64 a1_2,.int .i64 a1_3,.int .i64 a1_4] 110 (0,0)) (pb_ BK1479.out)) (G4 (bg_ GE1479.out))) (bl_ BK1479.out hb) (D0 (bg_ GE1479.out) hb);clear HO1495 BK1479 HB;obtain ⟨HO1495,HO1499,BK1479,HB⟩:=n_;(try clear hb);(try clear ho0)))
       go_ret2;exact ⟨_,er_,by (with_reducible repeat (first | apply Kd.R_alloc | apply Kd.R_drewN | apply Kd.R_drew));exact Kd.R_mono HO1499.out (fun _ hk=>trivial),bg_ GE1479.out⟩
theorem P9.calls (k:Nat) (a0:Int) (r:Int) (w:World) (h:P9.f k a0=some r) :
 Calls Tryz.prog 207 #[.int .u64 a0] w fun e w'=>e = .returned (.int .i64 r)∧A0g w w':=by
 have H:(if a0≥4294967296 then (P9.j0 k (a0/4294967296) 32) else (P9.j0 k a0 0))=some r:=h;clear h;have HC2:=B0.mk H;clear H;go_enter Tryz.func207,Tryz.ntmps207;go_upto_if 4 with (fail)
 go_cut [0,2] (fun v0 v2 wc=>∃ (kq:Nat) (x0_1:Int) (x2_1:Int),v0 = .int .u64 x0_1∧v2 = .int .i64 x2_1∧B0 (P9.j0 kq x0_1 x2_1=some r)∧B0 (kq≤k)∧A0g w wc)
 case first=>
  have H:=HC2.out;clear HC2
  by_cases c3:a0≥4294967296
  ·
   rw [if_pos c3] at H;have c3b0:decide (4294967296≤a0)=true:=decide_eq_true c3;clear c3;(first | rw [c3b0] | (simp only [A2z,A7a];rw [c3b0]) | skip)
   have H':=B0.mk H;clear H;go_wp2;go_meet
   case rel=>exact ⟨_,(a0/4294967296),(32),(rs_),(rs_),H',⟨le_⟩,dr_⟩
  ·
   rw [if_neg c3] at H;have c3b0:decide (4294967296≤a0)=false:=decide_eq_false c3;clear c3;(first | rw [c3b0] | (simp only [A2z,A7a];rw [c3b0]) | skip)
   have H':=B0.mk H;clear H;go_wp2;go_meet
   case rel=>exact ⟨_,(a0),(0),(rs_),(rs_),H',⟨le_⟩,dr_⟩
 case rest=>
  clear HC2;try clear c2
  try clear p2
  try clear c3b0
  obtain ⟨kq,x0_1,x2_1,rfl,rfl,HA,HJ1,⟨mc1,rfl⟩⟩:=hcut
  cases kq with
  | zero=>exact absurd HA.out (by simp [P9.j0])
  | succ kj1=>
   have H:=HA.out;clear HA;simp only [P9.j0] at H
   by_cases c4:x0_1≥65536
   ·
    rw [if_pos c4] at H;have c4b0:decide (65536≤x0_1)=true:=decide_eq_true c4;clear c4
    by_cases c5:(x0_1/65536)≥256
    ·
     rw [if_pos c5] at H;have c5b0:decide (256≤(x0_1/65536))=true:=decide_eq_true c5;clear c5;obtain ⟨ji6,hji6⟩:∃ j_:Int,(((x0_1/65536)/256) % 256)=j_:=⟨_,rfl⟩;replace H:(if 0≤(ji6) then (if (ji6)<256 then (some (wrap64 ((wrap64 ((wrap64 (x2_1+16))+8))+(wrap64 (bt (⟨#[0,1,2,2,3,3,3,3,4,4,4,4,4,4,4,4,5,5,5,5,5,5,5,5,5,5,5,5,5,5,5,5,6,6,6,6,6,6,6,6,6,6,6,6,6,6,6,6,6,6,6,6,6,6,6,6,6,6,6,6,6,6,6,6,7,7,7,7,7,7,7,7,7,7,7,7,7,7,7,7,7,7,7,7,7,7,7,7,7,7,7,7,7,7,7,7,7,7,7,7,7,7,7,7,7,7,7,7,7,7,7,7,7,7,7,7,7,7,7,7,7,7,7,7,7,7,7,7,8,8,8,8,8,8,8,8,8,8,8,8,8,8,8,8,8,8,8,8,8,8,8,8,8,8,8,8,8,8,8,8,8,8,8,8,8,8,8,8,8,8,8,8,8,8,8,8,8,8,8,8,8,8,8,8,8,8,8,8,8,8,8,8,8,8,8,8,8,8,8,8,8,8,8,8,8,8,8,8,8,8,8,8,8,8,8,8,8,8,8,8,8,8,8,8,8,8,8,8,8,8,8,8,8,8,8,8,8,8,8,8,8,8,8,8,8,8,8,8,8,8,8,8,8,8,8,8]⟩:ByteArray) (ji6)))))) else (none)) else (none))=some r:=rj_ hji6 H
     by_cases c7:0≤(ji6)
     ·
      rw [if_pos c7] at H;have c7b0:decide (0≤(ji6))=true:=decide_eq_true c7;clear c7
      by_cases c8:(ji6)<256
      ·
       rw [if_pos c8] at H;have c8b0:decide ((ji6)<256)=true:=decide_eq_true c8;clear c8;obtain rfl:=Option.some.inj H;have p9:0≤((ji6):Int):=od_;have q9:(ji6)<(256:Int):=od_;have hx9:=C4w (⟨#[0,1,2,2,3,3,3,3,4,4,4,4,4,4,4,4,5,5,5,5,5,5,5,5,5,5,5,5,5,5,5,5,6,6,6,6,6,6,6,6,6,6,6,6,6,6,6,6,6,6,6,6,6,6,6,6,6,6,6,6,6,6,6,6,7,7,7,7,7,7,7,7,7,7,7,7,7,7,7,7,7,7,7,7,7,7,7,7,7,7,7,7,7,7,7,7,7,7,7,7,7,7,7,7,7,7,7,7,7,7,7,7,7,7,7,7,7,7,7,7,7,7,7,7,7,7,7,7,8,8,8,8,8,8,8,8,8,8,8,8,8,8,8,8,8,8,8,8,8,8,8,8,8,8,8,8,8,8,8,8,8,8,8,8,8,8,8,8,8,8,8,8,8,8,8,8,8,8,8,8,8,8,8,8,8,8,8,8,8,8,8,8,8,8,8,8,8,8,8,8,8,8,8,8,8,8,8,8,8,8,8,8,8,8,8,8,8,8,8,8,8,8,8,8,8,8,8,8,8,8,8,8,8,8,8,8,8,8,8,8,8,8,8,8,8,8,8,8,8,8,8,8,8,8,8,8]⟩:ByteArray) (ji6);replace p9:=eq_true p9;replace q9:=eq_true q9;go_wp2;go_ret;exact ⟨by first | rfl | (simp;done) | (simp only [← hji6]<;>(first | rfl | simp)) | (simp [*];done),dr_⟩
      ·
       rw [if_neg c8] at H;exact absurd H (by simp)
     ·
      rw [if_neg c7] at H;exact absurd H (by simp)
    ·
     rw [if_neg c5] at H;have c5b0:decide (256≤(x0_1/65536))=false:=decide_eq_false c5;clear c5;obtain ⟨ji10,hji10⟩:∃ j_:Int,((x0_1/65536) % 256)=j_:=⟨_,rfl⟩;replace H:(if 0≤(ji10) then (if (ji10)<256 then (some (wrap64 ((wrap64 (x2_1+16))+(wrap64 (bt (⟨#[0,1,2,2,3,3,3,3,4,4,4,4,4,4,4,4,5,5,5,5,5,5,5,5,5,5,5,5,5,5,5,5,6,6,6,6,6,6,6,6,6,6,6,6,6,6,6,6,6,6,6,6,6,6,6,6,6,6,6,6,6,6,6,6,7,7,7,7,7,7,7,7,7,7,7,7,7,7,7,7,7,7,7,7,7,7,7,7,7,7,7,7,7,7,7,7,7,7,7,7,7,7,7,7,7,7,7,7,7,7,7,7,7,7,7,7,7,7,7,7,7,7,7,7,7,7,7,7,8,8,8,8,8,8,8,8,8,8,8,8,8,8,8,8,8,8,8,8,8,8,8,8,8,8,8,8,8,8,8,8,8,8,8,8,8,8,8,8,8,8,8,8,8,8,8,8,8,8,8,8,8,8,8,8,8,8,8,8,8,8,8,8,8,8,8,8,8,8,8,8,8,8,8,8,8,8,8,8,8,8,8,8,8,8,8,8,8,8,8,8,8,8,8,8,8,8,8,8,8,8,8,8,8,8,8,8,8,8,8,8,8,8,8,8,8,8,8,8,8,8,8,8,8,8,8,8]⟩:ByteArray) (ji10)))))) else (none)) else (none))=some r:=rj_ hji10 H
     by_cases c11:0≤(ji10)
     ·
      rw [if_pos c11] at H;have c11b0:decide (0≤(ji10))=true:=decide_eq_true c11;clear c11
      by_cases c12:(ji10)<256
      ·
       rw [if_pos c12] at H;have c12b0:decide ((ji10)<256)=true:=decide_eq_true c12;clear c12;obtain rfl:=Option.some.inj H;have p13:0≤((ji10):Int):=od_;have q13:(ji10)<(256:Int):=od_;have hx13:=C4w (⟨#[0,1,2,2,3,3,3,3,4,4,4,4,4,4,4,4,5,5,5,5,5,5,5,5,5,5,5,5,5,5,5,5,6,6,6,6,6,6,6,6,6,6,6,6,6,6,6,6,6,6,6,6,6,6,6,6,6,6,6,6,6,6,6,6,7,7,7,7,7,7,7,7,7,7,7,7,7,7,7,7,7,7,7,7,7,7,7,7,7,7,7,7,7,7,7,7,7,7,7,7,7,7,7,7,7,7,7,7,7,7,7,7,7,7,7,7,7,7,7,7,7,7,7,7,7,7,7,7,8,8,8,8,8,8,8,8,8,8,8,8,8,8,8,8,8,8,8,8,8,8,8,8,8,8,8,8,8,8,8,8,8,8,8,8,8,8,8,8,8,8,8,8,8,8,8,8,8,8,8,8,8,8,8,8,8,8,8,8,8,8,8,8,8,8,8,8,8,8,8,8,8,8,8,8,8,8,8,8,8,8,8,8,8,8,8,8,8,8,8,8,8,8,8,8,8,8,8,8,8,8,8,8,8,8,8,8,8,8,8,8,8,8,8,8,8,8,8,8,8,8,8,8,8,8,8,8]⟩:ByteArray) (ji10);replace p13:=eq_true p13;replace q13:=eq_true q13;go_wp2;go_ret;exact ⟨by first | rfl | (simp;done) | (simp only [← hji10]<;>(first | rfl | simp)) | (simp [*];done),dr_⟩
      ·
       rw [if_neg c12] at H;exact absurd H (by simp)
     ·
      rw [if_neg c11] at H;exact absurd H (by simp)
   ·
    rw [if_neg c4] at H;have c4b0:decide (65536≤x0_1)=false:=decide_eq_false c4;clear c4
    by_cases c14:x0_1≥256
    ·
     rw [if_pos c14] at H;have c14b0:decide (256≤x0_1)=true:=decide_eq_true c14;clear c14;obtain ⟨ji15,hji15⟩:∃ j_:Int,((x0_1/256) % 256)=j_:=⟨_,rfl⟩;replace H:(if 0≤(ji15) then (if (ji15)<256 then (some (wrap64 ((wrap64 (x2_1+8))+(wrap64 (bt (⟨#[0,1,2,2,3,3,3,3,4,4,4,4,4,4,4,4,5,5,5,5,5,5,5,5,5,5,5,5,5,5,5,5,6,6,6,6,6,6,6,6,6,6,6,6,6,6,6,6,6,6,6,6,6,6,6,6,6,6,6,6,6,6,6,6,7,7,7,7,7,7,7,7,7,7,7,7,7,7,7,7,7,7,7,7,7,7,7,7,7,7,7,7,7,7,7,7,7,7,7,7,7,7,7,7,7,7,7,7,7,7,7,7,7,7,7,7,7,7,7,7,7,7,7,7,7,7,7,7,8,8,8,8,8,8,8,8,8,8,8,8,8,8,8,8,8,8,8,8,8,8,8,8,8,8,8,8,8,8,8,8,8,8,8,8,8,8,8,8,8,8,8,8,8,8,8,8,8,8,8,8,8,8,8,8,8,8,8,8,8,8,8,8,8,8,8,8,8,8,8,8,8,8,8,8,8,8,8,8,8,8,8,8,8,8,8,8,8,8,8,8,8,8,8,8,8,8,8,8,8,8,8,8,8,8,8,8,8,8,8,8,8,8,8,8,8,8,8,8,8,8,8,8,8,8,8,8]⟩:ByteArray) (ji15)))))) else (none)) else (none))=some r:=rj_ hji15 H
     by_cases c16:0≤(ji15)
     ·
      rw [if_pos c16] at H;have c16b0:decide (0≤(ji15))=true:=decide_eq_true c16;clear c16
      by_cases c17:(ji15)<256
      ·
       rw [if_pos c17] at H;have c17b0:decide ((ji15)<256)=true:=decide_eq_true c17;clear c17;obtain rfl:=Option.some.inj H;have p18:0≤((ji15):Int):=od_;have q18:(ji15)<(256:Int):=od_;have hx18:=C4w (⟨#[0,1,2,2,3,3,3,3,4,4,4,4,4,4,4,4,5,5,5,5,5,5,5,5,5,5,5,5,5,5,5,5,6,6,6,6,6,6,6,6,6,6,6,6,6,6,6,6,6,6,6,6,6,6,6,6,6,6,6,6,6,6,6,6,7,7,7,7,7,7,7,7,7,7,7,7,7,7,7,7,7,7,7,7,7,7,7,7,7,7,7,7,7,7,7,7,7,7,7,7,7,7,7,7,7,7,7,7,7,7,7,7,7,7,7,7,7,7,7,7,7,7,7,7,7,7,7,7,8,8,8,8,8,8,8,8,8,8,8,8,8,8,8,8,8,8,8,8,8,8,8,8,8,8,8,8,8,8,8,8,8,8,8,8,8,8,8,8,8,8,8,8,8,8,8,8,8,8,8,8,8,8,8,8,8,8,8,8,8,8,8,8,8,8,8,8,8,8,8,8,8,8,8,8,8,8,8,8,8,8,8,8,8,8,8,8,8,8,8,8,8,8,8,8,8,8,8,8,8,8,8,8,8,8,8,8,8,8,8,8,8,8,8,8,8,8,8,8,8,8,8,8,8,8,8,8]⟩:ByteArray) (ji15);replace p18:=eq_true p18;replace q18:=eq_true q18;go_wp2;go_ret;exact ⟨by first | rfl | (simp;done) | (simp only [← hji15]<;>(first | rfl | simp)) | (simp [*];done),dr_⟩
      ·
       rw [if_neg c17] at H;exact absurd H (by simp)
     ·
      rw [if_neg c16] at H;exact absurd H (by simp)
    ·
     rw [if_neg c14] at H;have c14b0:decide (256≤x0_1)=false:=decide_eq_false c14;clear c14;obtain ⟨ji19,hji19⟩:∃ j_:Int,((x0_1) % 256)=j_:=⟨_,rfl⟩;replace H:(if 0≤(ji19) then (if (ji19)<256 then (some (wrap64 (x2_1+(wrap64 (bt (⟨#[0,1,2,2,3,3,3,3,4,4,4,4,4,4,4,4,5,5,5,5,5,5,5,5,5,5,5,5,5,5,5,5,6,6,6,6,6,6,6,6,6,6,6,6,6,6,6,6,6,6,6,6,6,6,6,6,6,6,6,6,6,6,6,6,7,7,7,7,7,7,7,7,7,7,7,7,7,7,7,7,7,7,7,7,7,7,7,7,7,7,7,7,7,7,7,7,7,7,7,7,7,7,7,7,7,7,7,7,7,7,7,7,7,7,7,7,7,7,7,7,7,7,7,7,7,7,7,7,8,8,8,8,8,8,8,8,8,8,8,8,8,8,8,8,8,8,8,8,8,8,8,8,8,8,8,8,8,8,8,8,8,8,8,8,8,8,8,8,8,8,8,8,8,8,8,8,8,8,8,8,8,8,8,8,8,8,8,8,8,8,8,8,8,8,8,8,8,8,8,8,8,8,8,8,8,8,8,8,8,8,8,8,8,8,8,8,8,8,8,8,8,8,8,8,8,8,8,8,8,8,8,8,8,8,8,8,8,8,8,8,8,8,8,8,8,8,8,8,8,8,8,8,8,8,8,8]⟩:ByteArray) (ji19)))))) else (none)) else (none))=some r:=rj_ hji19 H
     by_cases c20:0≤(ji19)
     ·
      rw [if_pos c20] at H;have c20b0:decide (0≤(ji19))=true:=decide_eq_true c20;clear c20
      by_cases c21:(ji19)<256
      ·
       rw [if_pos c21] at H;have c21b0:decide ((ji19)<256)=true:=decide_eq_true c21;clear c21;obtain rfl:=Option.some.inj H;have p22:0≤((ji19):Int):=od_;have q22:(ji19)<(256:Int):=od_;have hx22:=C4w (⟨#[0,1,2,2,3,3,3,3,4,4,4,4,4,4,4,4,5,5,5,5,5,5,5,5,5,5,5,5,5,5,5,5,6,6,6,6,6,6,6,6,6,6,6,6,6,6,6,6,6,6,6,6,6,6,6,6,6,6,6,6,6,6,6,6,7,7,7,7,7,7,7,7,7,7,7,7,7,7,7,7,7,7,7,7,7,7,7,7,7,7,7,7,7,7,7,7,7,7,7,7,7,7,7,7,7,7,7,7,7,7,7,7,7,7,7,7,7,7,7,7,7,7,7,7,7,7,7,7,8,8,8,8,8,8,8,8,8,8,8,8,8,8,8,8,8,8,8,8,8,8,8,8,8,8,8,8,8,8,8,8,8,8,8,8,8,8,8,8,8,8,8,8,8,8,8,8,8,8,8,8,8,8,8,8,8,8,8,8,8,8,8,8,8,8,8,8,8,8,8,8,8,8,8,8,8,8,8,8,8,8,8,8,8,8,8,8,8,8,8,8,8,8,8,8,8,8,8,8,8,8,8,8,8,8,8,8,8,8,8,8,8,8,8,8,8,8,8,8,8,8,8,8,8,8,8,8]⟩:ByteArray) (ji19);replace p22:=eq_true p22;replace q22:=eq_true q22;go_wp2;go_ret;exact ⟨by first | rfl | (simp;done) | (simp only [← hji19]<;>(first | rfl | simp)) | (simp [*];done),dr_⟩
      ·
       rw [if_neg c21] at H;exact absurd H (by simp)
     ·
      rw [if_neg c20] at H;exact absurd H (by simp)
end Go.Proofs.YtmfgajbkcnlkcaaGreat.P
