/- What the law FnExactBookMove leans on, cut out of this repo's own texts by a program of this repo: plain functions, the walks that tie the Go calls to them, the law over lists and numbers, and the row. -/
import Derived.Below
import Derived.Deep.Draws
import Derived.Deep.AppendLies
import Derived.Maps.AppendAt
import Derived.OwnWalk
import Derived.Laws.BytesArg
import Derived.Laws.MakeOwn
import Derived.Laws.OwnMore
import Derived.Deep.OwnRows
import Derived.Tactics
import Derived.Lib.ConvBytes
import Derived.Laws.Slices
import Derived.WalkKit
import Derived.KernelRfl
import Derived.RowKit3
import Derived.Deep.LoopGhost
import Derived.Deep.QuietTactic
import Derived.BigQuiet
import Derived.WideLaws
import Derived.Deep.DeepCutAuto
import Derived.Deep.CutBlock
import Derived.Deep.RegionHeld3
import Derived.Laws.Rows
import Derived.Lib.AppendStr
import Derived.ArgAppend
import Derived.Laws.IdiomCopy
import Derived.RowKit
import Derived.OrdersHeld
import Derived.Laws.BitsLemmas
import Derived.Laws.CopyRow
import Derived.Lib.Overlaps
import Derived.Lib.SliceRun
namespace Go.Proofs.YtmfgajbkcnlkcaaGreat.IN
end Go.Proofs.YtmfgajbkcnlkcaaGreat.IN
set_option linter.unusedVariables false
set_option linter.unusedSimpArgs false
namespace Go.Proofs.YtmfgajbkcnlkcaaGreatW.PrintWords
open Go.RowKit
structure B0 (p:Prop):Prop where mk::(out:p)
structure A0g (w w':World):Prop where mk::(out:∃ n,w'=w.drewN n)
theorem A0g.refl (w:World):A0g w w:=⟨⟨0,rfl⟩⟩
theorem A0g.step {w w':World} (h:A0g w w') (n:Nat):A0g w (w'.drewN n):=by
 obtain ⟨m,rfl⟩:=h
 exact ⟨⟨m+n,World.drewN_drewN ..⟩⟩
theorem A0g.below {w w':World} (h:A0g w w'):Below w.heap.size w w':=by
 obtain ⟨n,rfl⟩:=h
 induction n with
 | zero=>exact Below.refl _ _
 | succ n ih=>rw [← World.drew_drewN];exact ih.drew
def rd (xs:List Int) (i:Int):Int:=xs.getD i.toNat 0
def bt (s:ByteArray) (i:Int):Int:=if h:i.toNat<s.size then ((s[i.toNat]'h).toNat:Int) else 0
theorem C4w (s:ByteArray) (i:Int):∀ h:i.toNat<s.size,((s[i.toNat]'h).toNat:Int)=bt s i:=fun h=>by simp [bt,h]
theorem I8 {w W:World} (h:Below w.heap.size w W) (o:Obj):Below w.heap.size w (W.alloc o):=h.alloc h.size o
theorem A7y {B:Nat} {w W:World} (h:Below B w W):Below B w W.drew:=⟨h.os,h.tape,h.output,h.size,h.block⟩
theorem Q2 {B:Nat} {w W:World} (h:Below B w W) (n:Nat):Below B w (W.drewN n):=⟨h.os,h.tape,h.output,h.size,h.block⟩
theorem B6v {B:Nat} {w w1 w2:World} (h:Below B w w1) (hB:B≤w1.heap.size) (k:Below w1.heap.size w1 w2):Below B w w2:=
 h.trans ⟨k.os,k.tape,k.output,k.size,fun i hi=>k.block i (Nat.lt_of_lt_of_le hi hB)⟩
theorem Z8 {w w1:World} (h:Below w.heap.size w w1) (row:Option Nat):w.grownBy w1 row:=⟨h.os,h.tape,h.output,h.size,fun i hi _=>h.block i hi⟩
theorem A3s {w w1:World} (h:Below w.heap.size w w1) {a:Addr} {v:Value} (hc:w.cell? a=some v):w1.cell? a=some v:=(h.cell (World.block_lt_of_cell? w a hc)).trans hc
theorem C6t (W:World) (base:Nat) (e:TypeId) (size:Nat):W.ownsRow base e size (.slice none 0 0) 0 []:=⟨by simp,.inl ⟨rfl,rfl⟩⟩
theorem A8q {w:World} {base:Nat} {e:TypeId} {size n:Nat} {v:Value} {xs:List Value} (h:w.ownsRow base e size v n xs) (k:Nat) (hk:v.ownBlock=some k):base≤k:=by
 rcases h.2 with ⟨rfl,_⟩ | ⟨g,cap,cur,rfl,hb,_⟩
 · simp [Value.ownBlock] at hk
 · have:g=k:=by simpa [Value.ownBlock] using hk
   omega
theorem C5g {w:World} {base:Nat} {e:TypeId} {size n:Nat} {v:Value} {xs:List Value} (h:w.ownsRow base e size v n xs) (k:Nat) (hk:v.ownBlock=some k):k<w.heap.size:=by
 rcases h.2 with ⟨rfl,_⟩ | ⟨g,cap,cur,rfl,hb,hh,_⟩
 · simp [Value.ownBlock] at hk
 · have:g=k:=by simpa [Value.ownBlock] using hk
   subst this
   exact (Array.getElem?_eq_some_iff.1 hh).1
def Reps {α:Type} (R:α→List Value→Prop) (size:Nat) (ps:List α) (cs:List Value):Prop:=
 cs.length=ps.length*size∧∀ j p,ps[j]? = some p→R p ((cs.drop (j*size)).take size)
theorem Reps.none {α:Type} (R:α→List Value→Prop) (size:Nat):Reps R size [] []:=⟨by simp,fun j p h=>by simp at h⟩
theorem Reps.snoc {α:Type} {R:α→List Value→Prop} {size:Nat} {ps:List α} {cs c:List Value} {p:α} (h:Reps R size ps cs) (hp:R p c) (hc:c.length=size):Reps R size (ps++[p]) (cs++c):=by
 refine ⟨by rw [List.length_append,h.1,hc,List.length_append,List.length_singleton,Nat.add_mul,Nat.one_mul],fun j q hq=>?_⟩
 rcases Nat.lt_or_ge j ps.length with hj | hj
 · rw [List.getElem?_append_left hj] at hq
   have h1:j*size+size≤cs.length:=by rw [h.1,← Nat.succ_mul];exact Nat.mul_le_mul_right _ hj
   have h2:=h.2 j q hq
   rw [List.drop_append_of_le_length (by omega),List.take_append_of_le_length (by rw [List.length_drop];omega)]
   exact h2
 · have hj':j=ps.length:=by
    have:=(List.getElem?_eq_some_iff.1 hq).1
    rw [List.length_append,List.length_singleton] at this
    omega
   subst hj'
   have hq':p=q:=by simpa using hq
   subst hq'
   rw [← h.1,List.drop_left,← hc,List.take_length]
   exact hp
theorem Reps.imp_ {α:Type} {R R':α→List Value→Prop} {size:Nat} {ps:List α} {cs:List Value} (h:Reps R size ps cs) (hR:∀ p c,R p c→R' p c):Reps R' size ps cs:=⟨h.1,fun j p hj=>hR _ _ (h.2 j p hj)⟩
def Q3 {α:Type} (R:α→List Value→Prop) (size:Nat) (w:World) (A:Option Addr) (n:Nat) (ps:List α):Prop:=
 ps.length=n∧n≤9223372036854775807∧(0<n→∃ ad,A=some ad∧∀ j p,ps[j]? = some p→∃ c,c.length=size∧R p c∧∀ i u,c[i]? = some u→w.cell? (ad.add (j*size+i))=some u)
theorem Q3.get_ {α:Type} {R:α→List Value→Prop} {size:Nat} {w:World} {A:Option Addr} {n:Nat} {ps:List α} (h:Q3 R size w A n ps) (d:α) (i:Int) (h0:0≤i) (h1:i<n) :
 ∃ ad c,A=some ad∧c.length=size∧R (ps.getD i.toNat d) c∧∀ j u,c[j]? = some u→w.cell? (ad.add (i.toNat*size+j))=some u:=by
 obtain ⟨ad,e,hc⟩:=h.2.2 (by omega)
 have hl:i.toNat<ps.length:=by have:=h.1;omega
 obtain ⟨c,hs,hr,hcell⟩:=hc i.toNat _ (List.getElem?_eq_getElem hl)
 refine ⟨ad,c,e,hs,?_,hcell⟩
 rw [List.getD_eq_getElem?_getD,List.getElem?_eq_getElem hl]
 exact hr
theorem Q3.imp_ {α:Type} {R R':α→List Value→Prop} {size:Nat} {w w1:World} {A:Option Addr} {n:Nat} {ps:List α} (h:Q3 R size w A n ps) (hb:Below w.heap.size w w1) (hR:∀ p c,R p c→R' p c):Q3 R' size w1 A n ps:=
 ⟨h.1,h.2.1,fun hn=>by
   obtain ⟨ad,e,hc⟩:=h.2.2 hn
   refine ⟨ad,e,fun j p hj=>?_⟩
   obtain ⟨c,hs,hr,hcell⟩:=hc j p hj
   exact ⟨c,hs,hR _ _ hr,fun i u hu=>A3s hb (hcell i u hu)⟩⟩
theorem A8p {α:Type} {R:α→List Value→Prop} {w:World} {base n size:Nat} {e:TypeId} {v:Value} {ps:List α} {cs:List Value} (h:w.ownsRow base e size v n cs) (hR:Reps R size ps cs) (hn:ps.length=n) :
 ∃ A c,v = .slice A n c∧Q3 R size w A n ps:=by
 rcases Nat.eq_zero_or_pos n with h0 | h0
 · rcases h.2 with ⟨rfl,rfl⟩ | ⟨g,cap,cur,rfl,_⟩
   · exact ⟨none,0,rfl,hn,by omega,fun hp=>absurd hp (by omega)⟩
   · exact ⟨_,cap,rfl,hn,by omega,fun hp=>absurd hp (by omega)⟩
 · obtain ⟨g,cap,rfl,_,_⟩:=h.form h0
   have hm:n≤9223372036854775807:=by
    rcases h.2 with ⟨_,h1⟩ | ⟨g',cap',cur,he,_,_,h1,h2,_⟩
    · omega
    · simp only [maxLen] at h2
      omega
   refine ⟨_,cap,rfl,hn,hm,fun _=>⟨_,rfl,fun j p hj=>⟨(cs.drop (j*size)).take size,?_,hR.2 j p hj,fun i u hu=>?_⟩⟩⟩
   · have hjl:=(List.getElem?_eq_some_iff.1 hj).1
     have h1:j*size+size≤cs.length:=by rw [hR.1,← Nat.succ_mul];exact Nat.mul_le_mul_right _ hjl
     rw [List.length_take,List.length_drop]
     omega
   · refine h.cells (g:=g) rfl _ u ?_
     rw [List.getElem?_take] at hu
     split at hu
     · rw [List.getElem?_drop] at hu
       exact hu
     · cases hu
theorem U3 (ad:Addr) (m j:Nat) (hj:0<j):ad.add (m+j)=⟨(ad.add m).block,(ad.add m).off+j,none⟩:=by
 unfold Addr.add
 by_cases hm:m=0
 · subst hm
   simp [Nat.ne_of_gt hj]
 · simp [hm,Nat.add_assoc]
theorem B8d {w:World} {base:Nat} {e t:TypeId} {size n g:Nat} {v:Value} {xs:List Value} {cs:Array Value} (h:w.ownsRow base e size v n xs) (hg:w.heap[g]? = some (.cells cs t (0,0))) (hne:e≠t):some g≠v.ownBlock:=by
 rcases h.2 with ⟨rfl,_⟩ | ⟨g',cap,cur,rfl,_,hh,_⟩
 · simp [Value.ownBlock]
 · intro he
   have:g=g':=by simpa [Value.ownBlock] using he
   subst this
   rw [hg] at hh
   injection hh with hh
   injection hh with _ ht
   exact hne ht.symm
theorem C0p {w:World} {g:Nat} {t:TypeId} {cs:Array Value} (h:w.heap[g]? = some (.cells cs t (0,0))) (i:Nat) (u:Value):(w.setCell ⟨g,i,none⟩ u).heap[g]? = some (.cells (cs.setIfInBounds i u) t (0,0)):=by
 simp [World.setCell,Array.getElem?_modify,h]
theorem A2r {w:World} {g:Nat} {o:Obj} (h:w.heap[g]? = some o):g<w.heap.size:=(Array.getElem?_eq_some_iff.1 h).1
theorem C4 {w:World} {g:Nat} {t:TypeId} {cs:Array Value} (h:w.heap[g]? = some (.cells cs t (0,0))) (i:Nat):w.cell? ⟨g,i,none⟩=cs[i]?:=cell_of_row w g i cs t (0,0) h
theorem Q6 {w:World} {g:Nat} {t:TypeId} {cs:Array Value} (h:w.heap[g]? = some (.cells cs t (0,0))) (i:Nat):w.frozen? ⟨g,i,none⟩=false:=by simp [World.frozen?,h]
def Ev {α:Type} (g:Nat→Option α) (r:α):Prop:=∃ K,∀ k,K≤k→g k=some r
theorem Ev.now {α:Type} (r:α):Ev (fun _=>some r) r:=⟨0,fun _ _=>rfl⟩
theorem Ev.rounds {α:Type} {g:Nat→Option α} {r:α} (h:Ev g r):∃ k,g k=some r:=by
 obtain ⟨K,h⟩:=h
 exact ⟨K,h K (Nat.le_refl _)⟩
theorem Ev.bind {α β:Type} {g:Nat→Option α} {f:Nat→α→Option β} {a:α} {r:β} (h:Ev g a) (k:Ev (fun n=>f n a) r):Ev (fun n=>(g n).bind (f n)) r:=by
 obtain ⟨K,h⟩:=h
 obtain ⟨K',k⟩:=k
 refine ⟨max K K',fun n hn=>?_⟩
 have h1:=h n (by omega)
 have h2:=k n (by omega)
 simp only [h1,Option.bind_some]
 exact h2
theorem Ev.step {α:Type} {g f:Nat→Option α} {r:α} (h:∀ k,g (k+1)=f k) (k:Ev f r):Ev g r:=by
 obtain ⟨K,k⟩:=k
 refine ⟨K+1,fun n hn=>?_⟩
 obtain ⟨m,rfl⟩:∃ m,n=m+1:=⟨n-1,by omega⟩
 rw [h]
 exact k m (by omega)
theorem Ev.congr {α:Type} {g f:Nat→Option α} {r:α} (h:∀ k,g k=f k) (k:Ev f r):Ev g r:=by
 obtain ⟨K,k⟩:=k
 exact ⟨K,fun n hn=>(h n).trans (k n hn)⟩
theorem B6h {w:World} {base base':Nat} {e:TypeId} {size n:Nat} {v:Value} {xs:List Value} (h:w.ownsRow base e size v n xs) (hb:base'≤base):w.ownsRow base' e size v n xs:=by
 obtain ⟨h1,h2⟩:=h
 refine ⟨h1,?_⟩
 rcases h2 with h2 | ⟨g,cap,cur,rfl,hg,r⟩
 · exact .inl h2
 · exact .inr ⟨g,cap,cur,rfl,Nat.le_trans hb hg,r⟩
section
variable {α:Type} {enc:α→Value} {d:α}
def rdOf (d:α) (xs:List α) (i:Int):α:=xs.getD i.toNat d
def A9q (enc:α→Value) (d:α) (w:World) (A:Option Addr) (n:Nat) (xs:List α):Prop:=
 xs.length=n∧n≤9223372036854775807∧(0<n→∃ ad,A=some ad∧∀ j,j<n→w.cell? (ad.add j)=some (enc (xs.getD j d)))
theorem A9q.at_ {w:World} {A:Option Addr} {n:Nat} {xs:List α} (h:A9q enc d w A n xs) (i:Int) (h0:0≤i) (h1:i<n):∃ ad,A=some ad∧w.cell? (ad.add i.toNat)=some (enc (rdOf d xs i)):=by
 obtain ⟨ad,e,hc⟩:=h.2.2 (by omega)
 exact ⟨ad,e,hc _ (by omega)⟩
end
theorem A6o {w:World} {g:Nat} {o:Obj} (h:w.heap[g]? = some o) (o':Obj):(w.alloc o').heap[g]? = some o:=(Below.heap_alloc w o' g (A2r h)).trans h
theorem A0n {w:World} {g:Nat} {o:Obj} (h:w.heap[g]? = some o):w.drew.heap[g]? = some o:=h
theorem A6n {w:World} {g:Nat} {o:Obj} (h:w.heap[g]? = some o) (n:Nat):(w.drewN n).heap[g]? = some o:=h
theorem T3 {w w1:World} {g:Nat} {o:Obj} (h:w.heap[g]? = some o) (hb:Below w.heap.size w w1):w1.heap[g]? = some o:=(hb.block g (A2r h)).trans h
theorem C7z (w:World) (o:Obj):(w.alloc o).heap[w.heap.size]? = some o:=heap_alloc_new w o
theorem C8w {w:World} {base n m c size:Nat} {e:TypeId} {A:Option Addr} {xs:List Value} (h:w.ownsRow base e size (.slice A m c) n xs):m≤c:=by
 rcases h.2 with ⟨he,_⟩ | ⟨g,cap,cur,he,_,_,hnc,_⟩
 · injection he with _ h2 h3
   omega
 · injection he with _ h2 h3
   omega
def A3c {α:Type} (R:α→List Value→Prop) (e:TypeId) (size:Nat) (w:World) (base:Nat) (v:Value) (ps:List α):Prop:=
 ∃ inner,w.ownsRow base e size v ps.length inner∧Reps R size ps inner
section
variable {α:Type} {R R':α→List Value→Prop} {e:TypeId} {size:Nat} {w w1:World} {base:Nat} {v:Value} {ps:List α}
theorem A3c.none_ (R:α→List Value→Prop) (e:TypeId) (size:Nat) (w:World) (base:Nat):A3c R e size w base (.slice none 0 0) []:=⟨[],C6t _ _ _ _,Reps.none _ _⟩
theorem A3c.imp_ (h:A3c R e size w base v ps) (hR:∀ p c,R p c→R' p c):A3c R' e size w base v ps:=by
 obtain ⟨inner,ho,hr⟩:=h
 exact ⟨inner,ho,hr.imp_ hR⟩
theorem A3c.reads (h:A3c R e size w base v ps):∃ A c,v = .slice A ps.length c∧ps.length≤c∧Q3 R size w A ps.length ps:=by
 obtain ⟨inner,ho,hr⟩:=h
 obtain ⟨A,c,rfl,hrow⟩:=A8p ho hr rfl
 exact ⟨A,c,rfl,C8w ho,hrow⟩
end
theorem Q3.inner_ {α:Type} {R:α→List Value→Prop} {size:Nat} {w:World} {ad:Addr} {n:Nat} {ps:List α} (h:Q3 R size w (some ad) n ps) :
 ∃ inner,Reps R size ps inner∧∀ j u,inner[j]? = some u→w.cell? (ad.add j)=some u:=by
 have key:∀ m,m≤ps.length→∃ inner,Reps R size (ps.take m) inner∧∀ j u,inner[j]? = some u→w.cell? (ad.add j)=some u:=by
  intro m
  induction m with
  | zero=>exact fun _=>⟨[],Reps.none _ _,fun j u hu=>by simp at hu⟩
  | succ m ih=>
    intro hm
    obtain ⟨inner,hr,hc⟩:=ih (by omega)
    obtain ⟨ad',he,hcell⟩:=h.2.2 (by have:=h.1;omega)
    injection he with he
    subst he
    obtain ⟨c,hcl,hp,hcc⟩:=hcell m _ (List.getElem?_eq_getElem (show m<ps.length by omega))
    refine ⟨inner++c,?_,fun j u hu=>?_⟩
    · rw [List.take_succ_eq_append_getElem (show m<ps.length by omega)]
      exact hr.snoc hp hcl
    · have hil:inner.length=m*size:=by rw [hr.1,List.length_take,Nat.min_eq_left (by omega)]
      rcases Nat.lt_or_ge j inner.length with hj | hj
      · rw [List.getElem?_append_left hj] at hu
        exact hc j u hu
      · rw [List.getElem?_append_right hj] at hu
        have:=hcc (j-inner.length) u hu
        rwa [hil,Nat.add_sub_cancel' (by omega)] at this
 obtain ⟨inner,hr,hc⟩:=key ps.length (Nat.le_refl _)
 rw [List.take_length] at hr
 exact ⟨inner,hr,hc⟩
structure Kd (α:Type) where
 sz:Nat
 E:List Nat
 K:World→α→List Value→Prop
 M:World→Nat→(Nat→Prop)→α→List Value→Prop
 K_len:∀ {w x cs},K w x cs→cs.length=sz
 K_one:∀ {w x cs},K w x cs→∀ u∈cs,u.oneCell'=true
 K_below:∀ {w w1:World} {x cs},Below w.heap.size w w1→K w x cs→K w1 x cs
 K_of_M:∀ {w base ok x cs},M w base ok x cs→K w x cs
 M_mono:∀ {w base ok ok' x cs},(∀ k,ok k→ok' k)→M w base ok x cs→M w base ok' x cs
 M_bound:∀ {w:World} {base ok x cs},M w base ok x cs→M w base (fun k=>ok k∧base≤k∧k<w.heap.size∧∃ q,q∈E∧∃ cells,w.heap[k]? = some (.cells cells q (0,0))) x cs
 M_move:∀ {w w1:World} {base ok x cs},(∀ k,ok k→w1.heap[k]? = w.heap[k]?)→M w base ok x cs→M w1 base ok x cs
 M_lower:∀ {w base base' ok x cs},base'≤base→M w base ok x cs→M w base' ok x cs
theorem C3y {w w1:World} {base:Nat} {e:TypeId} {size n:Nat} {v:Value} {xs:List Value} (h:w.ownsRow base e size v n xs) (hm:∀ k,v.ownBlock=some k→w1.heap[k]? = w.heap[k]?):w1.ownsRow base e size v n xs:=by
 obtain ⟨h1,h2⟩:=h
 refine ⟨h1,?_⟩
 rcases h2 with h2 | ⟨g,cap,cur,rfl,hg,hh,r⟩
 · exact .inl h2
 · exact .inr ⟨g,cap,cur,rfl,hg,(hm g (by simp [Value.ownBlock])).trans hh,r⟩
theorem B8a {w:World} {base:Nat} {e:TypeId} {size n:Nat} {v:Value} {xs:List Value} (h:w.ownsRow base e size v n xs) (k:Nat) (hk:v.ownBlock=some k):∃ cells,w.heap[k]? = some (.cells cells e (0,0)):=by
 rcases h.2 with ⟨rfl,_⟩ | ⟨g,cap,cur,rfl,hg,hh,r⟩
 · simp [Value.ownBlock] at hk
 · have:g=k:=by simpa [Value.ownBlock] using hk
   subst this
   exact ⟨cur,hh⟩
namespace Kd
def C {α:Type} (d:Kd α) (w:World) (A:Option Addr) (n:Nat) (xs:List α):Prop:=Q3 (d.K w) d.sz w A n xs
def R {α:Type} (d:Kd α) (e:Nat) (w:World) (base:Nat) (ok:Nat→Prop) (v:Value) (xs:List α):Prop:=
 (∀ k,v.ownBlock=some k→ok k)∧A3c (d.M w base (fun k=>ok k∧some k≠v.ownBlock)) e d.sz w base v xs
section
variable {α:Type} {d:Kd α} {e:Nat} {w w1:World} {base:Nat} {ok ok':Nat→Prop} {v:Value} {xs:List α}
theorem C_below {A:Option Addr} {n:Nat} (h:d.C w A n xs) (hb:Below w.heap.size w w1):d.C w1 A n xs:=Q3.imp_ h hb (fun _ _ hp=>d.K_below hb hp)
theorem R_nil (d:Kd α) (e:Nat) (w:World) (base:Nat) (ok:Nat→Prop):d.R e w base ok (.slice none 0 0) []:=⟨fun k hk=>by simp [Value.ownBlock] at hk,A3c.none_ _ _ _ _ _⟩
theorem R_mono (h:d.R e w base ok v xs) (hok:∀ k,ok k→ok' k):d.R e w base ok' v xs:=⟨fun k hk=>hok k (h.1 k hk),h.2.imp_ (fun _ _ hp=>d.M_mono (fun k hk=>⟨hok k hk.1,hk.2⟩) hp)⟩
theorem A6s (h:d.R e w base ok v xs):d.R e w base (fun k=>ok k∧base≤k∧k<w.heap.size∧∃ q,q∈e::d.E∧∃ cells,w.heap[k]? = some (.cells cells q (0,0))) v xs:=by
 obtain ⟨h0,inner,ho,hr⟩:=h
 refine ⟨fun k hk=>?_,inner,ho,hr.imp_ (fun _ _ hp=>d.M_mono (fun k hk=>?_) (d.M_bound hp))⟩
 · obtain ⟨cells,hc⟩:=B8a ho k hk
   exact ⟨h0 k hk,A8q ho k hk,C5g ho k hk,e,List.mem_cons_self,cells,hc⟩
 · obtain ⟨⟨h1,h2⟩,h3,h4,q,hq,hc⟩:=hk
   exact ⟨⟨h1,h3,h4,q,List.mem_cons_of_mem _ hq,hc⟩,h2⟩
theorem C0z (h:d.R e w base ok v xs) (hm:∀ k,ok k→w1.heap[k]? = w.heap[k]?):d.R e w1 base ok v xs:=by
 obtain ⟨h0,inner,ho,hr⟩:=h
 exact ⟨h0,inner,C3y ho (fun k hk=>hm k (h0 k hk)),hr.imp_ (fun _ _ hp=>d.M_move (fun k hk=>hm k hk.1) hp)⟩
theorem R_lower {base':Nat} (h:d.R e w base ok v xs) (hb:base'≤base):d.R e w base' ok v xs:=by
 obtain ⟨h0,inner,ho,hr⟩:=h
 exact ⟨h0,inner,B6h ho hb,hr.imp_ (fun _ _ hp=>d.M_lower hb hp)⟩
theorem D2g (h:d.R e w base ok v xs) (hm:∀ k,ok k→k<w.heap.size→w1.heap[k]? = w.heap[k]?):d.R e w1 base ok v xs:=
 R_mono (C0z (A6s h) (fun k hk=>hm k hk.1 hk.2.2.1)) (fun _ hk=>hk.1)
theorem C6c {x:α} {cs:List Value} (h:d.M w base ok x cs) (hm:∀ k,ok k→k<w.heap.size→w1.heap[k]? = w.heap[k]?):d.M w1 base ok x cs:=
 d.M_mono (fun _ hk=>hk.1) (d.M_move (fun k hk=>hm k hk.1 hk.2.2.1) (d.M_bound h))
theorem R_below (h:d.R e w base ok v xs) (hb:Below w.heap.size w w1):d.R e w1 base ok v xs:=D2g h (fun k _ hk=>hb.block k hk)
theorem C1a {x:α} {cs:List Value} (h:d.M w base ok x cs) (hb:Below w.heap.size w w1):d.M w1 base ok x cs:=C6c h (fun k _ hk=>hb.block k hk)
theorem R_reads (h:d.R e w base ok v xs):∃ A c,v = .slice A xs.length c∧xs.length≤c∧d.C w A xs.length xs:=by
 obtain ⟨A,c,he,hl,hr⟩:=A3c.reads h.2
 exact ⟨A,c,he,hl,hr.imp_ (Below.refl _ _) (fun _ _ hp=>d.K_of_M hp)⟩
theorem R_slice (h:d.R e w base ok v xs):∃ A c,v = .slice A xs.length c:=by
 obtain ⟨A,c,he,_⟩:=R_reads h
 exact ⟨A,c,he⟩
theorem D2h (h:d.R e w base ok v xs):∃ inner,w.ownsRow base e d.sz v xs.length inner:=by
 obtain ⟨_,inner,ho,_⟩:=h
 exact ⟨inner,ho⟩
end
def B7l {α:Type} (enc:α→Value) (h1:∀ x,(enc x).oneCell'=true):Kd α where
 sz:=1
 E:=[]
 K:=fun _ x cs=>cs=[enc x]
 M:=fun _ _ _ x cs=>cs=[enc x]
 K_len:=fun h=>by rw [h];rfl
 K_one:=fun h u hu=>by
  rw [h] at hu
  rw [List.mem_singleton.1 hu]
  exact h1 _
 K_below:=fun _ h=>h
 K_of_M:=fun h=>h
 M_mono:=fun _ h=>h
 M_bound:=fun h=>h
 M_move:=fun _ h=>h
 M_lower:=fun _ h=>h
def int (k:IntKind):Kd Int:=B7l (Value.int k) (fun _=>rfl)
def slice {α:Type} (e:Nat) (d:Kd α):Kd (List α) where
 sz:=1
 E:=e::d.E
 K:=fun w xs cs=>∃ A c,cs=[.slice A xs.length c]∧xs.length≤c∧d.C w A xs.length xs
 M:=fun w base ok xs cs=>∃ v,cs=[v]∧d.R e w base ok v xs
 K_len:=by
  rintro w x cs ⟨A,c,rfl,_⟩
  rfl
 K_one:=by
  rintro w x cs ⟨A,c,rfl,_⟩ u hu
  rw [List.mem_singleton.1 hu]
  rfl
 K_below:=by
  rintro w w1 x cs hb ⟨A,c,rfl,hl,hr⟩
  exact ⟨A,c,rfl,hl,C_below hr hb⟩
 K_of_M:=by
  rintro w base ok x cs ⟨v,rfl,h⟩
  obtain ⟨A,c,rfl,hl,hr⟩:=R_reads h
  exact ⟨A,c,rfl,hl,hr⟩
 M_mono:=by
  rintro w base ok ok' x cs hok ⟨v,rfl,h⟩
  exact ⟨v,rfl,R_mono h hok⟩
 M_bound:=by
  rintro w base ok x cs ⟨v,rfl,h⟩
  exact ⟨v,rfl,A6s h⟩
 M_move:=by
  rintro w w1 base ok x cs hm ⟨v,rfl,h⟩
  exact ⟨v,rfl,C0z h hm⟩
 M_lower:=by
  rintro w base base' ok x cs hb ⟨v,rfl,h⟩
  exact ⟨v,rfl,R_lower h hb⟩
def pair {α β:Type} (a:Kd α) (b:Kd β):Kd (α×β) where
 sz:=a.sz+b.sz
 E:=a.E++b.E
 K:=fun w x cs=>∃ c0 c1,cs=c0++c1∧a.K w x.1 c0∧b.K w x.2 c1
 M:=fun w base ok x cs=>∃ c0 c1,cs=c0++c1∧a.M w base ok x.1 c0∧b.M w base ok x.2 c1
 K_len:=by
  rintro w x cs ⟨c0,c1,rfl,h0,h1⟩
  rw [List.length_append,a.K_len h0,b.K_len h1]
 K_one:=by
  rintro w x cs ⟨c0,c1,rfl,h0,h1⟩ u hu
  rcases List.mem_append.1 hu with hu | hu
  · exact a.K_one h0 u hu
  · exact b.K_one h1 u hu
 K_below:=by
  rintro w w1 x cs hb ⟨c0,c1,rfl,h0,h1⟩
  exact ⟨c0,c1,rfl,a.K_below hb h0,b.K_below hb h1⟩
 K_of_M:=by
  rintro w base ok x cs ⟨c0,c1,rfl,h0,h1⟩
  exact ⟨c0,c1,rfl,a.K_of_M h0,b.K_of_M h1⟩
 M_mono:=by
  rintro w base ok ok' x cs hok ⟨c0,c1,rfl,h0,h1⟩
  exact ⟨c0,c1,rfl,a.M_mono hok h0,b.M_mono hok h1⟩
 M_bound:=by
  rintro w base ok x cs ⟨c0,c1,rfl,h0,h1⟩
  refine ⟨c0,c1,rfl,a.M_mono ?_ (a.M_bound h0),b.M_mono ?_ (b.M_bound h1)⟩
  · rintro k ⟨h2,h3,h4,q,hq,hc⟩
    exact ⟨h2,h3,h4,q,List.mem_append_left _ hq,hc⟩
  · rintro k ⟨h2,h3,h4,q,hq,hc⟩
    exact ⟨h2,h3,h4,q,List.mem_append_right _ hq,hc⟩
 M_move:=by
  rintro w w1 base ok x cs hm ⟨c0,c1,rfl,h0,h1⟩
  exact ⟨c0,c1,rfl,a.M_move hm h0,b.M_move hm h1⟩
 M_lower:=by
  rintro w base base' ok x cs hb ⟨c0,c1,rfl,h0,h1⟩
  exact ⟨c0,c1,rfl,a.M_lower hb h0,b.M_lower hb h1⟩
def iso {α β:Type} (d:Kd α) (f:β→α):Kd β where
 sz:=d.sz
 E:=d.E
 K:=fun w x cs=>d.K w (f x) cs
 M:=fun w base ok x cs=>d.M w base ok (f x) cs
 K_len:=d.K_len
 K_one:=d.K_one
 K_below:=d.K_below
 K_of_M:=d.K_of_M
 M_mono:=d.M_mono
 M_bound:=d.M_bound
 M_move:=d.M_move
 M_lower:=d.M_lower
def bot {α:Type} (sz:Nat) (E:List Nat):Kd α where
 sz:=sz
 E:=E
 K:=fun _ _ _=>False
 M:=fun _ _ _ _ _=>False
 K_len:=fun h=>h.elim
 K_one:=fun h=>h.elim
 K_below:=fun _ h=>h
 K_of_M:=fun h=>h
 M_mono:=fun _ h=>h
 M_bound:=fun h=>h
 M_move:=fun _ h=>h
 M_lower:=fun _ h=>h
def upto {α:Type} (F:Kd α→Kd α) (sz:Nat) (E:List Nat):Nat→Kd α
 | 0=>bot sz E
 | n+1=>F (upto F sz E n)
theorem C_get {α:Type} {d:Kd α} {w:World} {A:Option Addr} {n:Nat} {xs:List α} (h:d.C w A n xs) (z:α) (i:Int) (h0:0≤i) (h1:i<n) :
 ∃ ad c,A=some ad∧c.length=d.sz∧d.K w (xs.getD i.toNat z) c∧∀ j u,c[j]? = some u→w.cell? (ad.add (i.toNat*d.sz+j))=some u:=Q3.get_ h z i h0 h1
theorem B6f {α:Type} {enc:α→Value} {d:α} {h1:∀ x,(enc x).oneCell'=true} {w:World} {A:Option Addr} {n:Nat} {xs:List α} (h:(B7l enc h1).C w A n xs):A9q enc d w A n xs:=by
 refine ⟨h.1,h.2.1,fun hn=>?_⟩
 obtain ⟨ad,e,hc⟩:=h.2.2 hn
 refine ⟨ad,e,fun j hj=>?_⟩
 have hl:j<xs.length:=by have:=h.1;omega
 obtain ⟨c,_,hK,hcell⟩:=hc j _ (List.getElem?_eq_getElem hl)
 have hK':c=[enc xs[j]]:=hK
 subst hK'
 have:=hcell 0 _ rfl
 simpa [B7l,List.getD_eq_getElem?_getD,List.getElem?_eq_getElem hl] using this
end Kd
namespace Kd
end Kd
namespace Kd
end Kd
namespace Kd
section
variable {α β:Type} {d:Kd α} {d':Kd β} {e e':Nat} {w w1 W:World} {base b b':Nat} {ok ok' okv oku:Nat→Prop} {v u:Value} {xs:List α} {ys:List β}
theorem R_alloc (h:d.R e w base ok v xs) (o:Obj):d.R e (w.alloc o) base ok v xs:=R_below h (I8 (Below.refl _ _) o)
theorem R_drew (h:d.R e w base ok v xs):d.R e w.drew base ok v xs:=R_below h (A7y (Below.refl _ _))
theorem R_drewN (h:d.R e w base ok v xs) (m:Nat):d.R e (w.drewN m) base ok v xs:=R_below h (Q2 (Below.refl _ _) m)
theorem C_alloc {A:Option Addr} {n:Nat} (h:d.C w A n xs) (o:Obj):d.C (w.alloc o) A n xs:=C_below h (I8 (Below.refl _ _) o)
theorem C_drew {A:Option Addr} {n:Nat} (h:d.C w A n xs):d.C w.drew A n xs:=C_below h (A7y (Below.refl _ _))
theorem C_drewN {A:Option Addr} {n:Nat} (h:d.C w A n xs) (m:Nat):d.C (w.drewN m) A n xs:=C_below h (Q2 (Below.refl _ _) m)
theorem D5h (d:Kd α) (w:World):d.C w none ([]:List α).length []:=⟨rfl,by simp,fun h=>absurd h (Nat.lt_irrefl 0)⟩
theorem C_max {A:Option Addr} {n:Nat} (h:d.C w A n xs):n≤9223372036854775807:=h.2.1
theorem R_reads' {A:Option Addr} {n c:Nat} (h:d.R e w base ok (.slice A n c) xs):n=xs.length∧n≤c∧d.C w A xs.length xs:=by
 obtain ⟨A',c',he,hl,hr⟩:=R_reads h
 injection he with h1 h2 h3
 subst h1
 exact ⟨h2,by omega,hr⟩
theorem R_lt (h:d.R e w base ok v xs):∀ k,v.ownBlock=some k→k<w.heap.size:=by
 obtain ⟨inner,ho⟩:=D2h h
 exact C5g ho
theorem R_base (h:d.R e w base ok v xs):∀ k,v.ownBlock=some k→base≤k:=by
 obtain ⟨inner,ho⟩:=D2h h
 exact A8q ho
theorem R_away (h:d.R e w base ok v xs) {g:Nat} (hok:∀ k,ok k→k≠g):some g≠v.ownBlock:=fun e=>hok g (h.1 g e.symm) rfl
end
section
variable {w W:World} {A:Option Addr} {n:Nat}
theorem at_int {k:IntKind} {xs:List Int} (h:(Kd.int k).C w A n xs) (i:Int) (h0:0≤i) (h1:i<n):∃ ad,A=some ad∧w.cell? (ad.add i.toNat)=some (.int k (rd xs i)):=
 A9q.at_ (B6f (enc:=Value.int k) (d:=(0:Int)) (h1:=fun _=>rfl) h) i h0 h1
variable {α:Type} {enc:α→Value} {h1:∀ x,(enc x).oneCell'=true} {e base g cap:Nat} {ok:Nat→Prop} {xs:List α}
end
section
variable {P:Program} {ops:Array Oper} {rest:List Oper} {o:Oper} {a:Act} {Q:Exit→Act→World→Prop}
theorem event_run {W w1:World} {v:Value} (hgd:o.guard=none) (hrun:(execOp a.eval o).run P W = .ok (.value v) w1) (h:wpList P ops Q rest (a.put o.dst v) w1):wpList P ops Q (o::rest) a W:=by
 refine wpList_plain hgd fun K hK=>?_
 unfold Oper.wp
 rw [hrun]
 exact hK _ _ h
variable {α:Type}
theorem R_lit (d:Kd α) {w0 W:World} (base e:Nat) (hgd:o.guard=none) {N:Tmp} (_hd:o.dst=some N) {xs:List α} {inner:List Value} {ok okp:Nat→Prop}
 (hrun:(execOp a.eval o).run P W = .ok (.value (.slice (some ⟨W.heap.size,0,none⟩) xs.length xs.length)) (W.alloc (.cells inner.toArray e)))
 (hrep:Reps (d.M W base okp) d.sz xs inner) (hok:∀ k,okp k→ok k) (hfresh:ok W.heap.size) (HB:Below base w0 W) (hbase:base≤W.heap.size) (hm:xs.length≤9223372036854775807)
 (h:∀ v1 w1,d.R e w1 base ok v1 xs→Below base w0 w1→W.grownBy w1 none→(∃ b,v1.ownBlock=some b∧W.heap.size≤b)→wpList P ops Q rest (a.put o.dst v1) w1):wpList P ops Q (o::rest) a W:=by
 refine event_run hgd hrun (h _ _ ⟨fun k hk=>?_,inner,?_,?_⟩ (HB.alloc hbase _) (World.grownBy_alloc W _ none) ⟨W.heap.size,by simp [Value.ownBlock],Nat.le_refl _⟩)
 · have:W.heap.size=k:=by simpa [Value.ownBlock] using hk
   subst this
   exact hfresh
 · have h2:=World.ownsRow_lit (base:=base) (e:=e) (size:=d.sz) W inner.toArray xs.length hbase (by simpa [maxLen] using hm) (by simpa using hrep.1)
   simpa using h2
 · refine hrep.imp_ (fun p c hp=>d.M_mono (fun k hk=>⟨hok k hk.1,fun he=>?_⟩) (C1a (d.M_bound hp) (I8 (Below.refl _ _) _)))
   have h3:k=W.heap.size:=by simpa [Value.ownBlock] using he
   have:=hk.2.2.1
   omega
end
end Kd
def QRow (w:World) (base:Nat) (e:TypeId) (size:Nat) (v:Value) (n:Nat) (xs:List Value):Prop:=
 xs.length=n*size ∧
 ((n=0∧∃ A,v = .slice A 0 0∧∀ a,A=some a→base≤a.block∧∃ cur,w.heap[a.block]? = some (.cells cur e (0,0))) ∨
  ∃ g off cap cur,v = .slice (some ⟨g,off*size,none⟩) n cap∧base≤g∧w.heap[g]? = some (.cells cur e (0,0))∧n≤cap∧off+cap≤maxLen∧cur.size=(off+cap)*size∧(cur.toList.drop (off*size)).take (n*size)=xs)
section
variable {w w1:World} {base n size:Nat} {e:TypeId} {v:Value} {xs:List Value}
theorem C3t (h:w.ownsRow base e size v n xs):QRow w base e size v n xs:=by
 obtain ⟨h1,h2⟩:=h
 refine ⟨h1,?_⟩
 rcases h2 with ⟨rfl,h0⟩ | ⟨g,cap,cur,rfl,hb,hh,hnc,hcm,hcs,ht⟩
 · exact .inl ⟨h0,none,rfl,fun a ha=>by cases ha⟩
 · exact .inr ⟨g,0,cap,cur,by rw [Nat.zero_mul],hb,hh,hnc,by rw [Nat.zero_add];exact hcm,by rw [Nat.zero_add];exact hcs,by rw [Nat.zero_mul,List.drop_zero];exact ht⟩
theorem A0y {g:Nat}:∀ (vs:List Value) (o:Nat) {w:World} (k:Nat),k≠g→(w.setCells g o vs).heap[k]? = w.heap[k]?
 | [],_,_,_,_=>rfl
 | v::r,o,w,k,hk=>by
   rw [World.setCells,A0y r (o+1) k hk]
   exact Below.heap_setCell w ⟨g,o,none⟩ v k hk
theorem A3n (g:Nat):∀ (vs:List Value) (o:Nat) (w:World),(w.setCells g o vs).os=w.os∧(w.setCells g o vs).tape=w.tape∧(w.setCells g o vs).output=w.output∧(w.setCells g o vs).heap.size=w.heap.size
 | [],_,_=>⟨rfl,rfl,rfl,rfl⟩
 | v::r,o,w=>by
   obtain ⟨h1,h2,h3,h4⟩:=A3n g r (o+1) (w.setCell ⟨g,o,none⟩ v)
   rw [World.setCells]
   exact ⟨h1,h2,h3,by rw [h4];simp [World.setCell]⟩
theorem T6 {g:Nat} {e:TypeId}:∀ (vs:List Value) (o:Nat) (w:World) (cur:Array Value),w.heap[g]? = some (.cells cur e (0,0))→o+vs.length≤cur.size→
 ∃ cur',(w.setCells g o vs).heap[g]? = some (.cells cur' e (0,0))∧cur'.size=cur.size∧cur'.toList=cur.toList.take o++vs++cur.toList.drop (o+vs.length)
 | [],o,w,cur,h,_=>⟨cur,h,rfl,by simp⟩
 | v::r,o,w,cur,h,hl=>by
   have h2:=C0p h o v
   simp only [List.length_cons] at hl
   obtain ⟨cur',h3,h4,h5⟩:=T6 r (o+1) (w.setCell ⟨g,o,none⟩ v) _ h2 (by simp;omega)
   refine ⟨cur',h3,by rw [h4];simp,?_⟩
   rw [h5,Array.toList_setIfInBounds]
   have ho:o<cur.toList.length:=by rw [Array.length_toList];omega
   rw [List.take_set,List.drop_set_of_lt (by omega)]
   simp only [List.length_cons]
   rw [show o+1+r.length=o+(r.length+1) by omega]
   congr 1
   rw [List.take_succ_eq_append_getElem ho,List.set_append_right _ _ (by rw [List.length_take];omega)]
   have ho':o<cur.size:=by omega
   simp [Nat.min_eq_left (Nat.le_of_lt ho')]
end
namespace Kd
def Q {α:Type} (d:Kd α) (e:Nat) (w:World) (base:Nat) (ok:Nat→Prop) (v:Value) (xs:List α):Prop:=
 (∀ k,v.ownBlock=some k→ok k)∧∃ inner,QRow w base e d.sz v xs.length inner∧Reps (d.M w base (fun k=>ok k∧some k≠v.ownBlock)) d.sz xs inner
section
variable {α:Type} {d:Kd α} {e:Nat} {w w1 W:World} {base:Nat} {ok ok':Nat→Prop} {v:Value} {xs:List α}
theorem D2i (h:d.R e w base ok v xs):d.Q e w base ok v xs:=by
 obtain ⟨h0,inner,ho,hr⟩:=h
 exact ⟨h0,inner,C3t ho,hr⟩
theorem Q_nil (d:Kd α) (e:Nat) (w:World) (base:Nat) (ok:Nat→Prop):d.Q e w base ok (.slice none 0 0) []:=D2i (R_nil d e w base ok)
end
end Kd
namespace Kd
section
variable {α:Type} {d:Kd α} {e e':Nat} {w w1 W:World} {base:Nat} {ok:Nat→Prop} {u v:Value} {xs:List α}
theorem R_elder' (hu:d.R e W base ok u xs) (hbase:∀ k,v.ownBlock=some k→W.heap.size≤k) (hb:Below W.heap.size W w1):d.R e w1 base (fun k=>ok k∧some k≠v.ownBlock) u xs:=
 R_mono (C0z (A6s hu) (fun k hk=>hb.block k hk.2.2.1)) (fun k hk=>⟨hk.1,fun he=>by have:=hbase k he.symm;have:=hk.2.2.1;omega⟩)
theorem R_new' (h:d.R e w1 W.heap.size ok v xs) (hlt:∀ k,u.ownBlock=some k→k<W.heap.size):d.R e w1 W.heap.size (fun k=>ok k∧some k≠u.ownBlock) v xs:=
 R_mono (A6s h) (fun k hk=>⟨hk.1,fun he=>by have:=hlt k he.symm;have:=hk.2.1;omega⟩)
end
end Kd
namespace Kd
end Kd
namespace Kd
end Kd
namespace Kd
theorem reps_append {α:Type} {R:α→List Value→Prop} {size:Nat} {ps qs:List α} {cs ds:List Value} (h:Reps R size ps cs) (h':Reps R size qs ds):Reps R size (ps++qs) (cs++ds):=by
 refine ⟨by rw [List.length_append,List.length_append,h.1,h'.1,Nat.add_mul],fun j p hj=>?_⟩
 rcases Nat.lt_or_ge j ps.length with hlt | hge
 · rw [List.getElem?_append_left hlt] at hj
   have hle:j*size+size≤cs.length:=by rw [h.1,← Nat.succ_mul];exact Nat.mul_le_mul_right _ hlt
   rw [List.drop_append_of_le_length (by omega),List.take_append_of_le_length (by rw [List.length_drop];omega)]
   exact h.2 j p hj
 · rw [List.getElem?_append_right hge] at hj
   have h2:=h'.2 (j-ps.length) p hj
   have hle:ps.length*size≤j*size:=Nat.mul_le_mul_right _ hge
   rw [List.drop_append,List.drop_eq_nil_of_le (by rw [h.1];exact hle),List.nil_append,h.1,← Nat.sub_mul]
   exact h2
section
variable {P:Program} {ops:Array Oper} {rest:List Oper} {o:Oper} {a:Act} {Q:Exit→Act→World→Prop} {α:Type}
theorem R_append_rows (d:Kd α) {Rr:α→List Value→Prop} {w0 W:World} (base:Nat) (hgd:o.guard=none) (s x:Operand) (t e:TypeId) (z:Value) (bytes:Nat)
 (ho:o.op = .call { callee:=.builtin .append,args:=#[s,x],argTypes:=#[t,t] })
 (ht:P.underlying t=some (.slice e)) (hinfo:(P.info? e).map (fun i=>(i.zero,i.size,i.bytes))=some (some z,d.sz,bytes)) (hz:z.cells.size=d.sz) (hs0:0<d.sz) (hb0:0<bytes)
 (v:Value) (xs ys:List α) (A:Option Addr) (m c:Nat) (ok okp:Nat→Prop) (hs:a.eval s=v) (hx:a.eval x = .slice A m c)
 (HO:d.R e W base ok v xs) (HR:Q3 Rr d.sz W A m ys) (hKM:∀ x cs,Rr x cs→d.M W base okp x cs) (hokp:∀ k,okp k→ok k∧some k≠v.ownBlock) (hfresh:∀ k,W.heap.size≤k→ok k)
 (HB:Below base w0 W) (hbase:base≤W.heap.size) (hl:(xs.length+m)*bytes≤140737488355328)
 (h:∀ v1 w1,d.R e w1 base ok v1 (xs++ys)→Below base w0 w1→W.grownBy w1 v.ownBlock→(v1.ownBlock=v.ownBlock∨∃ b,v1.ownBlock=some b∧W.heap.size≤b)→wpList P ops Q rest (a.put o.dst v1) w1) :
 wpList P ops Q (o::rest) a W:=by
 obtain ⟨i0,hi,hzz⟩:=Option.map_eq_some_iff.1 hinfo
 simp only [Prod.mk.injEq] at hzz
 obtain ⟨hz0,hz1,hz2⟩:=hzz
 have hm:ys.length=m:=HR.1
 have hlen:xs.length+m≤140737488355328:=Nat.le_trans (Nat.le_mul_of_pos_right _ hb0) hl
 obtain ⟨hok,inner,hown,hr⟩:=HO
 have hrun:∃ v1 w1,(Builtin.append_ #[t,t] o.type #[v,.slice A m c]).run P W = .ok v1 w1∧d.R e w1 base ok v1 (xs++ys)∧W.grownBy w1 v.ownBlock∧(v1.ownBlock=v.ownBlock∨∃ b,v1.ownBlock=some b∧W.heap.size≤b):=by
  rcases A with _ | ad
  · have h0:m=0:=by
     rcases Nat.eq_zero_or_pos m with h0 | h0
     · exact h0
     · obtain ⟨ad,h,_⟩:=HR.2.2 h0
       cases h
    subst h0
    obtain rfl:ys=[]:=List.eq_nil_of_length_eq_zero hm
    refine ⟨v,W,?_,by rw [List.append_nil];exact ⟨hok,inner,hown,hr⟩,World.grownBy.refl W _,.inl rfl⟩
    rcases hown.2 with ⟨rfl,hn⟩ | ⟨g,cap,cur,rfl,_,_,hnc,_⟩
    · simp [Builtin.append_,run_underlying ht,sizeOf,typeInfo,hi,Builtin.lenOf,Builtin.firstCells]
    · simp [Builtin.append_,run_underlying ht,sizeOf,typeInfo,hi,Builtin.lenOf,Builtin.firstCells,hnc,storeCells]
  · obtain ⟨news,hnr,hnc⟩:=Q3.inner_ HR
    have hnM:Reps (d.M W base okp) d.sz ys news:=hnr.imp_ (fun p c hp=>hKM p c hp)
    have hone:∀ u∈news,u.oneCell'=true:=by
     intro u hu
     obtain ⟨q,hq,rfl⟩:=List.mem_iff_getElem.1 hu
     have hql:q/d.sz<ys.length:=by
      rw [Nat.div_lt_iff_lt_mul hs0]
      rw [← hnM.1]
      exact hq
     have hc:=hnM.2 (q/d.sz) _ (List.getElem?_eq_getElem hql)
     refine d.K_one (d.K_of_M hc) _ ?_
     rw [List.mem_iff_getElem?]
     refine ⟨q % d.sz,?_⟩
     rw [List.getElem?_take,if_pos (Nat.mod_lt _ hs0),List.getElem?_drop,Nat.mul_comm,Nat.div_add_mod,List.getElem?_eq_getElem hq]
    obtain ⟨v1,w1,hrun,h2,hg,_,hat⟩:=run_append_own_at (P:=P) W base t o.type e i0 z d.sz bytes ht hi hz0 hz1 hz2 hz hs0 v xs.length inner hown ad m c news (by rw [hnM.1,hm]) hnc hone (by simp only [maxLen];omega) hl hbase
    have hat':v1.ownBlock=v.ownBlock∨∃ b,v1.ownBlock=some b∧W.heap.size≤b:=by
     rcases hat with hat | hat
     · exact .inl hat
     · exact .inr ⟨_,hat,Nat.le_refl _⟩
    have hne:∀ k,some k≠v.ownBlock→k<W.heap.size→some k≠v1.ownBlock:=by
     intro k hk hlt
     rcases hat' with hat | ⟨b,hb,hle⟩
     · rw [hat];exact hk
     · rw [hb]
       intro he
       injection he with he
       omega
    have step:∀ {q:α} {c:List Value} {o:Nat→Prop},d.M W base o q c→(∀ k,o k→ok k∧some k≠v.ownBlock)→d.M w1 base (fun k=>ok k∧some k≠v1.ownBlock) q c:=by
     intro q c o hq ho
     have h1:=d.M_move (w1:=w1) (fun k hk=>hg.block k hk.2.2.1 (ho k hk.1).2) (d.M_bound hq)
     exact d.M_mono (fun k hk=>⟨(ho k hk.1).1,hne k (ho k hk.1).2 hk.2.2.1⟩) h1
    refine ⟨v1,w1,hrun,⟨fun k hk=>?_,inner++news,by rw [List.length_append,hm];exact h2,reps_append (hr.imp_ (fun _ _ hq=>step hq (fun _ hk=>hk))) (hnM.imp_ (fun _ _ hq=>step hq hokp))⟩,hg,hat'⟩
    rcases hat' with hat | ⟨b,hb,hle⟩
    · exact hok k (hat▸hk)
    · rw [hb] at hk
      injection hk with hk
      exact hfresh k (by omega)
 obtain ⟨v1,w1,hr1,h1,hg,hat⟩:=hrun
 refine wpList_plain hgd fun K hK=>?_
 unfold Oper.wp execOp
 simp only [ho,resolve,invoke,builtin,Sem.run_bind,Sem.run_pure,Result.andThen_ok,List.map_toArray,List.map_cons,List.map_nil,hs,hx,hr1]
 exact hK _ _ (h v1 w1 h1 (HB.grown hg hbase (A8q hown)) hg hat)
end
end Kd
namespace Kd
end Kd
namespace Kd
end Kd
theorem G4 {w W:World} (h:Below w.heap.size w W):w.heap.size≤W.heap.size:=h.size
theorem D0 {w W w2:World} (h:Below w.heap.size w W) (k:Below W.heap.size W w2):Below w.heap.size w w2:=B6v h h.size k
theorem A6p {w W:World} {g j:Nat} {v:Value} (h:Below w.heap.size w W) (hg:w.heap.size≤g):Below w.heap.size w (W.setCell ⟨g,j,none⟩ v):=h.setCell hg _
theorem A6m {w:World} {g:Nat} {t:TypeId} {cs cs':Array Value} (h:w.heap[g]? = some (.cells cs t (0,0))) (i:Nat) (u:Value) (e:cs.setIfInBounds i u=cs'):(w.setCell ⟨g,i,none⟩ u).heap[g]? = some (.cells cs' t (0,0)):=e▸C0p h i u
theorem Q5 {base:Nat} {w W:World} (h:Below base w W):Below base w W.drew:=h.drew
namespace Kd
end Kd
namespace Kd
section
variable {α:Type} {d:Kd α} {e base g:Nat} {ok:Nat→Prop} {w w1:World} {v:Value} {xs:List α} {o:Obj}
theorem R_newB (h:d.R e w1 w.heap.size ok v xs) (hb:w.heap[g]? = some o):d.R e w1 w.heap.size (fun k=>ok k∧k≠g) v xs:=R_mono (A6s h) (fun k hk=>⟨hk.1,by have:=A2r hb;have:=hk.2.1;omega⟩)
theorem freshB (hb:w.heap[g]? = some o):∀ k,w.heap.size≤k→k≠g:=fun k hk=>by have:=A2r hb;omega
end
end Kd
section
variable {P:Program} {ops:Array Oper} {rest:List Oper} {o:Oper} {a:Act} {Q:Exit→Act→World→Prop}
theorem C0l {W:World} (hgd:o.guard=none) {N:Tmp} (_hd:o.dst=some N) {cs:Array Value} {t:TypeId}
 (hrun:(execOp a.eval o).run P W = .ok (.value (.pointer (some ⟨W.heap.size,0,none⟩))) (W.alloc (.cells cs t (0,0))))
 (h:∀ g,g=W.heap.size→∀ w1,w1.heap[g]? = some (.cells cs t (0,0))→Below W.heap.size W w1→wpList P ops Q rest (a.put o.dst (.pointer (some ⟨g,0,none⟩))) w1):wpList P ops Q (o::rest) a W:=
 Kd.event_run hgd hrun (h _ rfl _ (C7z W _) (I8 (Below.refl _ _) _))
end
namespace Kd
end Kd
namespace Kd
end Kd
section
variable {P:Program} {ops:Array Oper} {rest:List Oper} {o:Oper} {a:Act} {Q:Exit→Act→World→Prop} {W:World}
theorem P7 {N:Tmp} (_hN:o.dst=some N) (h:wpList P ops Q (o::rest) a W):wpList P ops Q (o::rest) a W:=h
end
section
variable {P:Program} {ops:Array Oper} {o:Oper} {a:Act} {Q:Exit→Act→World→Prop} {Kc:Act→World→Prop}
theorem B6q {W w1:World} {v:Value} (hw:Region.wanted o (yielded ops a.tmps)=true) (hrun:(execOp a.eval o).run P W = .ok (.value v) w1) (h:Kc (a.put o.dst v) w1):if Region.wanted o (yielded ops a.tmps)=true then Oper.wp P o a W Kc Q else Kc (a.put o.dst undef) W:=by
 rw [if_pos hw]
 unfold Oper.wp
 rw [hrun]
 exact h
namespace Kd
variable {α:Type}
theorem R_lit_step (d:Kd α) {w0 W:World} (base e:Nat) (hw:Region.wanted o (yielded ops a.tmps)=true) {N:Tmp} (_hd:o.dst=some N) {xs:List α} {inner:List Value} {ok okp:Nat→Prop}
 (hrun:(execOp a.eval o).run P W = .ok (.value (.slice (some ⟨W.heap.size,0,none⟩) xs.length xs.length)) (W.alloc (.cells inner.toArray e)))
 (hrep:Reps (d.M W base okp) d.sz xs inner) (hok:∀ k,okp k→ok k) (hfresh:ok W.heap.size) (HB:Below base w0 W) (hbase:base≤W.heap.size) (hm:xs.length≤9223372036854775807)
 (h:∀ v1 w1,d.R e w1 base ok v1 xs→Below base w0 w1→W.grownBy w1 none→(∃ b,v1.ownBlock=some b∧W.heap.size≤b)→Kc (a.put o.dst v1) w1):if Region.wanted o (yielded ops a.tmps)=true then Oper.wp P o a W Kc Q else Kc (a.put o.dst undef) W:=by
 refine B6q hw hrun (h _ _ ⟨fun k hk=>?_,inner,?_,?_⟩ (HB.alloc hbase _) (World.grownBy_alloc W _ none) ⟨W.heap.size,by simp [Value.ownBlock],Nat.le_refl _⟩)
 · have:W.heap.size=k:=by simpa [Value.ownBlock] using hk
   subst this
   exact hfresh
 · have h2:=World.ownsRow_lit (base:=base) (e:=e) (size:=d.sz) W inner.toArray xs.length hbase (by simpa [maxLen] using hm) (by simpa using hrep.1)
   simpa using h2
 · refine hrep.imp_ (fun p c hp=>d.M_mono (fun k hk=>⟨hok k hk.1,fun he=>?_⟩) (C1a (d.M_bound hp) (I8 (Below.refl _ _) _)))
   have h3:k=W.heap.size:=by simpa [Value.ownBlock] using he
   have:=hk.2.2.1
   omega
end Kd
end
namespace Kd
end Kd
end Go.Proofs.YtmfgajbkcnlkcaaGreatW.PrintWords
namespace Go.Proofs.YtmfgajbkcnlkcaaGreatW.PrintLast
section
variable {P:Program} {ops:Array Oper} {Q:Exit→Act→World→Prop} {md:Region.Mode} {S:World→Prop} {ds:List Nat}
def Region.reachB (md:Region.Mode) (ops:Array Oper) (i:Nat):Nat→Nat→Bool
 | 0,_=>false
 | fuel+1,d=>match ops[d]? with
   | some o=>o.after.any fun e=>Region.binds md e&&(e.on == i||Region.reachB md ops i fuel e.on)
   | none=>false
def Region.closedB (md:Region.Mode) (ops:Array Oper) (listed:Array Bool):Bool:=
 (List.range ops.size).all fun j=>!listed.getD j false||match ops[j]? with
   | some o=>o.after.all fun e=>!Region.binds md e||listed.getD e.on false
   | none=>true
def Region.lastB (md:Region.Mode) (ops:Array Oper) (listed:Array Bool) (ds:List Nat) (i:Nat):Bool:=
 ds.all fun d=>listed.getD d true||Region.reachB md ops i ops.size d
def V7 (md:Region.Mode) (ops:Array Oper) (listed:Array Bool):Prop:=
 ∀ j oj,ops[j]? = some oj→listed.getD j false=true→∀ e∈oj.after,Region.binds md e=true→listed.getD e.on false=true
theorem Region.closedB_spec {listed:Array Bool} (h:Region.closedB md ops listed=true):V7 md ops listed:=by
 intro j oj hj hl e he hb
 have hlt:j<ops.size:=(Array.getElem?_eq_some_iff.1 hj).1
 have h1:=List.all_eq_true.1 h j (List.mem_range.2 hlt)
 simp only [hl,hj,Bool.not_true,Bool.false_or] at h1
 have h2:=Array.all_eq_true_iff_forall_mem.1 h1 e he
 simpa [hb] using h2
theorem V7.set {listed:Array Bool} {i:Nat} (h:V7 md ops listed) (hi:i∈Region.ready md ops listed):V7 md ops (listed.setIfInBounds i true):=by
 obtain ⟨_,oi,hoi,hall⟩:=mem_ready.1 hi
 intro j oj hj hl e he hb
 by_cases hij:i=j
 · subst hij
   have:oj=oi:=Option.some.inj (hj.symm.trans hoi)
   subst this
   exact getD_set_true (hall e he hb)
 · rw [getD_set_ne false hij] at hl
   exact getD_set_true (h j oj hj hl e he hb)
theorem Region.reach_listed {listed:Array Bool} {i:Nat} (hc:V7 md ops listed):∀ (fuel d:Nat),Region.reachB md ops i fuel d=true→listed.getD d false=true→listed.getD i false=true
 | 0,_,h,_=>by simp [Region.reachB] at h
 | fuel+1,d,h,hl=>by
   unfold Region.reachB at h
   cases ho:ops[d]? with
   | none=>rw [ho] at h;simp at h
   | some o=>
     rw [ho] at h
     obtain ⟨e,he,h1⟩:=Array.any_eq_true'.1 h
     simp only [Bool.and_eq_true,Bool.or_eq_true,beq_iff_eq] at h1
     have hle:=hc d o ho hl e he h1.1
     rcases h1.2 with h2 | h2
     · rw [← h2];exact hle
     · exact Region.reach_listed hc fuel e.on h2 hle
theorem Region.reach_not_ready {listed:Array Bool} {i d fuel:Nat} (hc:V7 md ops listed) (hr:Region.reachB md ops i fuel d=true) (hun:listed.getD i true=false):d ∉ Region.ready md ops listed:=by
 intro hd
 obtain ⟨_,o,ho,hall⟩:=mem_ready.1 hd
 have hi:listed.getD i false=true:=by
  cases fuel with
  | zero=>simp [Region.reachB] at hr
  | succ n=>
    unfold Region.reachB at hr
    rw [ho] at hr
    obtain ⟨e,he,h1⟩:=Array.any_eq_true'.1 hr
    simp only [Bool.and_eq_true,Bool.or_eq_true,beq_iff_eq] at h1
    have hle:=hall e he h1.1
    rcases h1.2 with h2 | h2
    · rw [← h2];exact hle
    · exact Region.reach_listed hc n e.on h2 hle
 rcases Nat.lt_or_ge i listed.size with h' | h'
 · simp [h'] at hun hi
   rw [hun] at hi
   cases hi
 · simp [Array.getElem?_eq_none h'] at hun
def J3 (P:Program) (md:Region.Mode) (ops:Array Oper) (Q:Exit→Act→World→Prop) (S:World→Prop) (ds:List Nat):Nat→Array Bool→Act→World→Prop
 | 0,listed,a,w=>Region.ready md ops listed=[]∧Q .normal a w
 | fuel+1,listed,a,w=>
   (Region.ready md ops listed=[]→Q .normal a w) ∧
   ∀ i∈Region.ready md ops listed,wpOp P ops Q i (fun a' w'=>(i ∉ ds→S w→S w')∧J3 P md ops Q S ds fuel (listed.setIfInBounds i true) a' w') a w
theorem A3k:∀ (fuel:Nat) (listed:Array Bool) (a:Act) (w:World),J3 P md ops Q S ds fuel listed a w→wpAny P md ops Q fuel listed a w
 | 0,_,_,_,h=>h
 | fuel+1,_,_,_,h=>⟨h.1,fun i hi=>wpOp_mono (fun a' w' h'=>A3k fuel _ a' w' h'.2) (h.2 i hi)⟩
theorem A5l {i:Nat} {oi:Oper} {v:Value} (hi:ops[i]? = some oi) (hsel:∀ (j:Nat) (o:Oper) cs b,ops[j]? = some o→o.op≠.select cs b)
 (hQ:∀ c a w,Q (.panic c) (a.put oi.dst v) w→Q (.panic c) a w) (n:Nat) :
 ∀ (fuel:Nat) (listed:Array Bool) (a:Act) (w:World),
  (∀ j oj,ops[j]? = some oj→j≠i→listed.getD j true=false→(∀ e∈oj.after,Region.binds md e=true→e.on≠i)→oi.apart ops oj=true)→
  V7 md ops listed→(∀ d∈ds,listed.getD d true=false→Region.reachB md ops i n d=true)→
  i∈Region.ready md ops listed→YieldsIf P ops S oi v a→S w→
  J3 P md ops Q S ds fuel (listed.setIfInBounds i true) (a.put oi.dst v) w→J3 P md ops Q S ds (fuel+1) listed a w:=by
 intro fuel
 induction fuel with
 | zero=>
   intro listed a w _ _ _ hr hy hS H
   refine ⟨fun h=>(by rw [h] at hr;cases hr),fun j hj=>?_⟩
   by_cases hji:j=i
   · subst hji;exact hy.wpOp hi hS ⟨fun _ h=>h,H⟩
   · have:=ready_mono hj hji
     rw [H.1] at this
     cases this
 | succ fuel ih=>
   intro listed a w hfree hc hd hr hy hS H
   refine ⟨fun h=>(by rw [h] at hr;cases hr),fun j hj=>?_⟩
   by_cases hji:j=i
   · subst hji;exact hy.wpOp hi hS ⟨fun _ h=>h,H⟩
   · have h1:=H.2 j (ready_mono hj hji)
     obtain ⟨hjun,oj,hoj,hall⟩:=mem_ready.1 hj
     have hiun:=(mem_ready.1 hr).1
     have hnot:∀ e∈oj.after,Region.binds md e=true→e.on≠i:=fun e he hb heq=>by
      have h1:=hall e he hb
      rw [heq] at h1
      rcases Nat.lt_or_ge i listed.size with h' | h'
      · simp [h'] at hiun h1;rw [hiun] at h1;cases h1
      · simp [Array.getElem?_eq_none h'] at h1
     have hjd:j ∉ ds:=fun hm=>Region.reach_not_ready hc (hd j hm hjun) hiun hj
     have h2:=wpOp_putIf hoj (hfree j oj hoj hji hjun hnot) (fun cs b=>hsel i oi cs b hi) (fun cs b=>hsel j oj cs b hoj) hQ hy h1
     have hfree':∀ k ok,ops[k]? = some ok→k≠i→(listed.setIfInBounds j true).getD k true=false→
      (∀ e∈ok.after,Region.binds md e=true→e.on≠i)→oi.apart ops ok=true:=fun k ok hk hki hun hno=>by
      refine hfree k ok hk hki ?_ hno
      by_cases hjk:j=k
      · subst hjk;exact hjun
      · rw [getD_set_ne true hjk] at hun;exact hun
     have hd':∀ d∈ds,(listed.setIfInBounds j true).getD d true=false→Region.reachB md ops i n d=true:=fun d hm hun=>by
      refine hd d hm ?_
      by_cases hjk:j=d
      · subst hjk;exact hjun
      · rw [getD_set_ne true hjk] at hun;exact hun
     refine wpOp_mono (fun a' w' h3=>⟨h3.2.1,ih (listed.setIfInBounds j true) a' w' hfree' (hc.set hj) hd' (ready_mono hr (Ne.symm hji)) h3.1 (h3.2.1 hjd hS) ?_⟩) h2
     rw [Array.setIfInBounds_comm _ _ hji]
     exact h3.2.2
theorem A8c {i:Nat} {oi:Oper} {v:Value} (hi:ops[i]? = some oi) (hsel:∀ (j:Nat) (o:Oper) cs b,ops[j]? = some o→o.op≠.select cs b)
 (hQ:∀ c a w,Q (.panic c) (a.put oi.dst v) w→Q (.panic c) a w) :
 ∀ (fuel:Nat) (listed:Array Bool) (a:Act) (w:World),
  (∀ j oj,ops[j]? = some oj→j≠i→listed.getD j true=false→(∀ e∈oj.after,Region.binds md e=true→e.on≠i)→oi.apart ops oj=true)→
  i∈Region.ready md ops listed→Yields P ops oi v a→
  J3 P md ops Q S ds fuel (listed.setIfInBounds i true) (a.put oi.dst v) w→J3 P md ops Q S ds (fuel+1) listed a w:=by
 intro fuel
 induction fuel with
 | zero=>
   intro listed a w _ hr hy H
   refine ⟨fun h=>(by rw [h] at hr;cases hr),fun j hj=>?_⟩
   by_cases hji:j=i
   · subst hji;exact (hy.yieldsIf (S:=fun _=>True)).wpOp hi trivial ⟨fun _ h=>h,H⟩
   · have:=ready_mono hj hji
     rw [H.1] at this
     cases this
 | succ fuel ih=>
   intro listed a w hfree hr hy H
   refine ⟨fun h=>(by rw [h] at hr;cases hr),fun j hj=>?_⟩
   by_cases hji:j=i
   · subst hji;exact (hy.yieldsIf (S:=fun _=>True)).wpOp hi trivial ⟨fun _ h=>h,H⟩
   · have h1:=H.2 j (ready_mono hj hji)
     obtain ⟨hjun,oj,hoj,hall⟩:=mem_ready.1 hj
     have hiun:=(mem_ready.1 hr).1
     have hnot:∀ e∈oj.after,Region.binds md e=true→e.on≠i:=fun e he hb heq=>by
      have h1:=hall e he hb
      rw [heq] at h1
      rcases Nat.lt_or_ge i listed.size with h' | h'
      · simp [h'] at hiun h1;rw [hiun] at h1;cases h1
      · simp [Array.getElem?_eq_none h'] at h1
     have h2:=wpOp_put hoj (hfree j oj hoj hji hjun hnot) (fun cs b=>hsel i oi cs b hi) (fun cs b=>hsel j oj cs b hoj) hQ hy h1
     have hfree':∀ k ok,ops[k]? = some ok→k≠i→(listed.setIfInBounds j true).getD k true=false→
      (∀ e∈ok.after,Region.binds md e=true→e.on≠i)→oi.apart ops ok=true:=fun k ok hk hki hun hno=>by
      refine hfree k ok hk hki ?_ hno
      by_cases hjk:j=k
      · subst hjk;exact hjun
      · rw [getD_set_ne true hjk] at hun;exact hun
     refine wpOp_mono (fun a' w' h3=>⟨h3.2.1,ih (listed.setIfInBounds j true) a' w' hfree' (ready_mono hr (Ne.symm hji)) h3.1 ?_⟩) h2
     rw [Array.setIfInBounds_comm _ _ hji]
     exact h3.2.2
theorem A6v {i:Nat} {oi:Oper} {v:Value} {fuel:Nat} {listed:Array Bool} {a:Act} {w:World} (hi:ops[i]? = some oi)
 (hs:Region.noSelect ops=true) (hf:Region.free md ops listed i=true) (hr:(Region.ready md ops listed).contains i=true)
 (hc:Region.closedB md ops listed=true) (hl:Region.lastB md ops listed ds i=true)
 (hQ:∀ c a w,Q (.panic c) (a.put oi.dst v) w→Q (.panic c) a w) (hy:YieldsIf P ops S oi v a) (hS:S w)
 (h:J3 P md ops Q S ds fuel (listed.setIfInBounds i true) (a.put oi.dst v) w):J3 P md ops Q S ds (fuel+1) listed a w:=
 A5l hi (Region.noSelect_spec hs) hQ ops.size fuel listed a w (Region.free_spec hi hf) (Region.closedB_spec hc)
  (fun d hm hun=>by have:=List.all_eq_true.1 hl d hm;rw [hun] at this;simpa using this) (by simpa using hr) hy hS h
theorem A8d {rs:List Nat} {fuel:Nat} {listed:Array Bool} {a:Act} {w:World} (hr:Region.ready md ops listed=rs) (hne:rs≠[])
 (h:∀ i∈rs,wpOp P ops Q i (fun a' w'=>(i ∉ ds→S w→S w')∧J3 P md ops Q S ds fuel (listed.setIfInBounds i true) a' w') a w):J3 P md ops Q S ds (fuel+1) listed a w:=
 ⟨fun h0=>absurd (hr▸h0) hne,hr▸h⟩
theorem A6w {listed:Array Bool} {a:Act} {w:World} (hr:Region.ready md ops listed=[]) (h:Q .normal a w) :
 ∀ fuel,J3 P md ops Q S ds fuel listed a w
 | 0=>⟨hr,h⟩
 | _+1=>⟨fun _=>h,by rw [hr];simp⟩
theorem A6u {id:Nat} {a:Act} {w:World} (hm:P.follows .mixedOrders=true)
 (h:J3 P .any ops Q S ds ops.size (Array.replicate ops.size false) a { w with drawn:=w.drawn+1 }):(Code.region id ops true).wp P Q a w:=
 wp_region_any hm (A3k _ _ _ _ h)
end
section
variable {P:Program} {ops:Array Oper} {Q:Exit→Act→World→Prop} {md:Region.Mode} {S:World→Prop} {ds:List Nat}
def V8 (P:Program) (md:Region.Mode) (ops:Array Oper) (Q:Exit→Act→World→Prop) (S:World→Prop) (ds:List Nat) (fuel:Nat) (listed:Array Bool) (a:Act) (w:World) (rs:List Nat):Prop:=
 ∀ i∈rs,wpOp P ops Q i (fun a' w'=>(i ∉ ds→S w→S w')∧J3 P md ops Q S ds fuel (listed.setIfInBounds i true) a' w') a w
theorem V8.nil {fuel:Nat} {listed:Array Bool} {a:Act} {w:World}:V8 P md ops Q S ds fuel listed a w []:=fun _ h=>by cases h
theorem V8.cons {fuel:Nat} {listed:Array Bool} {a:Act} {w:World} {i:Nat} {o:Oper} {rs:List Nat} (ho:ops[i]? = some o) (hd:i ∉ ds)
 (h:∀ K':Act→World→Prop,Shut (∀ a w,S w→(S w→J3 P md ops Q S ds fuel (listed.setIfInBounds i true) a w)→K' a w)→if Region.wanted o (yielded ops a.tmps)=true then Oper.wp P o a w K' Q else K' (a.put o.dst undef) w)
 (hs:V8 P md ops Q S ds fuel listed a w rs):V8 P md ops Q S ds fuel listed a w (i::rs):=fun j hj=>by
 rcases List.mem_cons.1 hj with rfl | hj
 · exact wpOp_step ho (fun K' hK=>h K' (fun a w hS hW=>hK a w ⟨fun _ _=>hS,hW hS⟩))
 · exact hs j hj
theorem A2i {rs:List Nat} {fuel:Nat} {listed:Array Bool} {a:Act} {w:World} (hr:Region.ready md ops listed=rs) (hne:rs≠[])
 (h:V8 P md ops Q S ds fuel listed a w rs):J3 P md ops Q S ds (fuel+1) listed a w:=A8d hr hne h
theorem A3m {id n:Nat} {a:Act} {w:World} (l:Array Bool) (hm:P.follows .mixedOrders=true) (hn:ops.size=n) (hl:Array.replicate n false=l) (hS:S w.drew)
 (h:S w.drew→J3 P .any ops Q S ds n l a w.drew):(Code.region id ops true).wp P Q a w:=by
 subst hn
 subst hl
 exact A6u hm (h hS)
def A9x (md:Region.Mode) (ops:Array Oper) (ds:List Nat) (l l':Array Bool) (i:Nat):Bool:=
 Region.noSelect ops&&Region.free md ops l i&&(Region.ready md ops l).contains i&&Region.closedB md ops l&&Region.lastB md ops l ds i&&(l.setIfInBounds i true == l')
theorem C6k {i:Nat} {N:Option Tmp} {oi:Oper} {v:Value} {fuel:Nat} {l:Array Bool} {a:Act} {w:World} (l':Array Bool) (hi:ops[i]? = some oi) (hN:oi.dst=N) (hc:A9x md ops ds l l' i=true)
 (hQ:∀ c a w,Q (.panic c) (a.put oi.dst v) w→Q (.panic c) a w) (hy:YieldsIf P ops S oi v a) (hS:S w) {a':Act} (ha:a.put N v=a')
 (h:J3 P md ops Q S ds fuel l' a' w):J3 P md ops Q S ds (fuel+1) l a w:=by
 subst ha
 subst hN
 simp only [A9x,Bool.and_eq_true,beq_iff_eq] at hc
 obtain ⟨⟨⟨⟨⟨h1,h2⟩,h3⟩,h4⟩,h5⟩,h6⟩:=hc
 subst h6
 exact A6v hi h1 h2 h3 h4 h5 hQ hy hS h
def anyB (md:Region.Mode) (ops:Array Oper) (l l':Array Bool) (i:Nat):Bool:=
 Region.noSelect ops&&Region.free md ops l i&&(Region.ready md ops l).contains i&&(l.setIfInBounds i true == l')
theorem B0i {i:Nat} {N:Option Tmp} {oi:Oper} {v:Value} {fuel:Nat} {l:Array Bool} {a:Act} {w:World} (l':Array Bool) (hi:ops[i]? = some oi) (hN:oi.dst=N) (hc:anyB md ops l l' i=true)
 (hQ:∀ c a w,Q (.panic c) (a.put oi.dst v) w→Q (.panic c) a w) (hy:Yields P ops oi v a) {a':Act} (ha:a.put N v=a')
 (h:J3 P md ops Q S ds fuel l' a' w):J3 P md ops Q S ds (fuel+1) l a w:=by
 subst ha
 subst hN
 simp only [anyB,Bool.and_eq_true,beq_iff_eq] at hc
 obtain ⟨⟨⟨h1,h2⟩,h3⟩,h6⟩:=hc
 subst h6
 exact A8c hi (Region.noSelect_spec h1) hQ fuel l a w (Region.free_spec hi h2) (by simpa using h3) hy h
def B4q (md:Region.Mode) (ops:Array Oper) (l l':Array Bool) (i:Nat):Bool:=(Region.ready md ops l == [i])&&(l.setIfInBounds i true == l')
theorem one_ {i:Nat} {N:Option Tmp} {oi:Oper} {fuel:Nat} {l:Array Bool} {a:Act} {w:World} (l':Array Bool) (hi:ops[i]? = some oi) (hN:oi.dst=N) (hc:B4q md ops l l' i=true) (hd:i ∉ ds)
 (h:∀ K:Act→World→Prop,Shut (∀ a' w',S w'→(S w'→J3 P md ops Q S ds fuel l' a' w')→K a' w')→if Region.wanted oi (yielded ops a.tmps)=true then Oper.wp P oi a w K Q else K (a.put N undef) w) :
 J3 P md ops Q S ds (fuel+1) l a w:=by
 subst hN
 simp only [B4q,Bool.and_eq_true,beq_iff_eq] at hc
 obtain ⟨h1,h2⟩:=hc
 subst h2
 exact A2i h1 (by simp) (V8.cons hi hd (fun K hK=>h K hK) V8.nil)
theorem A9d {l:Array Bool} {a:Act} {w:World} {n:Nat} (hr:(Region.ready md ops l == [])=true) (h:Q .normal a w):J3 P md ops Q S ds n l a w:=A6w (by simpa using hr) h n
theorem two_ {i j:Nat} {Ni Nj:Option Tmp} {oi oj:Oper} {fuel:Nat} {l:Array Bool} {a:Act} {w:World} (li lj:Array Bool) (hi:ops[i]? = some oi) (hj:ops[j]? = some oj) (hNi:oi.dst=Ni) (hNj:oj.dst=Nj)
 (hc:(Region.ready md ops l == [i,j]&&l.setIfInBounds i true == li&&l.setIfInBounds j true == lj)=true) (hdi:i ∉ ds) (hdj:j ∉ ds)
 (h1:∀ K:Act→World→Prop,Shut (∀ a' w',S w'→(S w'→J3 P md ops Q S ds fuel li a' w')→K a' w')→if Region.wanted oi (yielded ops a.tmps)=true then Oper.wp P oi a w K Q else K (a.put Ni undef) w)
 (h2:∀ K:Act→World→Prop,Shut (∀ a' w',S w'→(S w'→J3 P md ops Q S ds fuel lj a' w')→K a' w')→if Region.wanted oj (yielded ops a.tmps)=true then Oper.wp P oj a w K Q else K (a.put Nj undef) w) :
 J3 P md ops Q S ds (fuel+1) l a w:=by
 subst hNi
 subst hNj
 simp only [Bool.and_eq_true,beq_iff_eq] at hc
 obtain ⟨⟨h3,h4⟩,h5⟩:=hc
 subst h4
 subst h5
 exact A2i h3 (by simp) (V8.cons hi hdi (fun K hK=>h1 K hK) (V8.cons hj hdj (fun K hK=>h2 K hK) V8.nil))
def A3t:Act→List (Tmp×Value)→Act
 | a,[]=>a
 | a,(n,v)::r=>A3t (a.put (some n) v) r
theorem C9q {σ:Type} {fuel:Nat} {l:Array Bool} {a:Act} {w:World} (fuel':Nat) (l':Array Bool) (ns:σ→List (Tmp×Value)) (F:σ→World→Prop)
 (hcont:∀ s w',F s w'→J3 P md ops Q S ds fuel' l' (A3t a (ns s)) w')
 (h:(∀ s w',F s w'→J3 P md ops Q S ds fuel' l' (A3t a (ns s)) w')→J3 P md ops Q S ds fuel l a w):J3 P md ops Q S ds fuel l a w:=h hcont
theorem A0l {fuel:Nat} {l:Array Bool} {a a':Act} {w:World} (ha:a=a') (h:J3 P md ops Q S ds fuel l a' w):J3 P md ops Q S ds fuel l a w:=by
 subst ha
 exact h
theorem D5e {oi:Oper} {N:Option Tmp} {a:Act} {w:World} {K:Act→World→Prop} (f:FuncId) (args:Array Value) (hw:Region.wanted oi (yielded ops a.tmps)=true) (hN:oi.dst=N) (hrun:(execOp a.eval oi).run P w = .ok (.enter f args) w)
 (h:Calls P f args w fun e w'=>∃ v,e = .returned v∧K (a.put N v) w'):if Region.wanted oi (yielded ops a.tmps)=true then Oper.wp P oi a w K Q else K (a.put N undef) w:=by
 rw [if_pos hw]
 subst hN
 unfold Oper.wp
 rw [hrun,Oper.upon_enter]
 refine h.mono fun e w'' hh=>?_
 obtain ⟨v,rfl,hk⟩:=hh
 exact hk
theorem B4f {f:FuncId} {fn:Func} (hf:P.funcs[f]? = some fn) (hname:(fn.name == "runtime.NumGoroutine")=false) (hb:fn.body.isSome=true) (args:Array Value) (w:World):(callFunc f args).run P w = .ok (.enter f args) w:=by
 have h1:fn.name ≠ "runtime.NumGoroutine" := by simpa using hname
 obtain ⟨c,hc⟩:=Option.isSome_iff_exists.1 hb
 simp [callFunc,hf,h1,hc]
theorem A4c {oi:Oper} {N:Option Tmp} {a:Act} {w:World} {K:Act→World→Prop} {f:FuncId} {fn:Func} {as:Array Operand} {ts:Array TypeId} (hf:P.funcs[f]? = some fn) (hname:(fn.name == "runtime.NumGoroutine")=false) (hb:fn.body.isSome=true) (args:Array Value)
 (hw:Region.wanted oi (yielded ops a.tmps)=true) (hN:oi.dst=N) (hop:oi.op = .call { callee:=.value (.func f),args:=as,argTypes:=ts }) (hargs:as.map a.eval=args)
 (h:Calls P f args w fun e w'=>∃ v,e = .returned v∧K (a.put N v) w'):if Region.wanted oi (yielded ops a.tmps)=true then Oper.wp P oi a w K Q else K (a.put N undef) w:=by
 refine D5e f args hw hN ?_ h
 have he:=B4f hf hname hb args w
 unfold execOp
 simp [hop,resolve,Deferred.ofValue,invoke,Act.eval,hargs,he]
theorem V6 {rest:List Oper} {oi:Oper} {a:Act} {w:World} (N:Option Tmp) (hd:oi.dst=N) (hg:oi.guard=none) {f:FuncId} {fn:Func} {as:Array Operand} {ts:Array TypeId} (hf:P.funcs[f]? = some fn) (hname:(fn.name == "runtime.NumGoroutine")=false) (hb:fn.body.isSome=true) (args:Array Value)
 (hop:oi.op = .call { callee:=.value (.func f),args:=as,argTypes:=ts }) (hargs:as.map a.eval=args)
 (h:Calls P f args w fun e w'=>∃ v,e = .returned v∧wpList P ops Q rest (a.put N v) w'):wpList P ops Q (oi::rest) a w:=by
 refine wpList_plain hg fun K hK=>?_
 have he:=B4f hf hname hb args w
 have hrun:(execOp a.eval oi).run P w = .ok (.enter f args) w:=by
  unfold execOp
  simp [hop,resolve,Deferred.ofValue,invoke,Act.eval,hargs,he]
 unfold Oper.wp
 rw [hrun,Oper.upon_enter]
 refine h.mono fun e w'' hh=>?_
 obtain ⟨v,rfl,hk⟩:=hh
 subst hd
 exact hK _ _ hk
theorem A2z (n:Int):IntKind.i64.wrap n=Go.RowKit.wrap64 n:=by unfold Go.RowKit.wrap64;exact IntKind.wrap_i64 n
theorem A7a (n:Int):IntKind.i32.wrap n=Go.RowKit.wrap32 n:=by unfold Go.RowKit.wrap32;exact IntKind.wrap_i32 n
end
end Go.Proofs.YtmfgajbkcnlkcaaGreatW.PrintLast
namespace Go.Proofs.YtmfgajbkcnlkcaaGreatW.PrintWords
open Go.RowKit
namespace Kd
def tag {α:Type} (f:Nat→Nat) (d:Kd α):Kd (α×Nat) where
 sz:=d.sz
 E:=d.E
 K:=fun w x cs=>d.K w x.1 cs
 M:=fun w base ok x cs=>d.M w base (fun k=>ok k∧f k=x.2) x.1 cs
 K_len:=fun h=>d.K_len h
 K_one:=fun h=>d.K_one h
 K_below:=fun hb h=>d.K_below hb h
 K_of_M:=fun h=>d.K_of_M h
 M_mono:=fun hok h=>d.M_mono (fun k hk=>⟨hok k hk.1,hk.2⟩) h
 M_bound:=fun h=>d.M_mono (fun _ hk=>⟨⟨hk.1.1,hk.2⟩,hk.1.2⟩) (d.M_bound h)
 M_move:=fun hm h=>d.M_move (fun k hk=>hm k hk.1) h
 M_lower:=fun hb h=>d.M_lower hb h
def raw (sz:Nat):Kd (List Value) where
 sz:=sz
 E:=[]
 K:=fun _ x cs=>cs=x∧cs.length=sz∧∀ u∈cs,u.oneCell'=true
 M:=fun _ _ _ x cs=>cs=x∧cs.length=sz∧∀ u∈cs,u.oneCell'=true
 K_len:=fun h=>h.2.1
 K_one:=fun h=>h.2.2
 K_below:=fun _ h=>h
 K_of_M:=fun h=>h
 M_mono:=fun _ h=>h
 M_bound:=fun h=>h
 M_move:=fun _ h=>h
 M_lower:=fun _ h=>h
def S {α:Type} (d:Kd α) (e:Nat) (w:World) (base:Nat) (ok:Nat→Prop) (v:Value) (xs:List α):Prop:=∃ f,(tag f d).R e w base ok v xs.zipIdx
section
variable {α β:Type} {d:Kd α} {d':Kd β} {e e':Nat} {w w1 W:World} {base b:Nat} {ok ok' okv oku:Nat→Prop} {u v:Value} {xs:List α} {ys:List β}
theorem R_tight (hE:d.E=[]) (h:d.R e w base ok v xs):d.R e w base (fun k=>some k=v.ownBlock) v xs:=by
 obtain ⟨h0,inner,ho,hr⟩:=h
 refine ⟨fun k hk=>hk.symm,inner,ho,hr.imp_ (fun p c hp=>d.M_mono (fun k hk=>?_) (d.M_bound hp))⟩
 obtain ⟨_,_,_,q,hq,_⟩:=hk
 rw [hE] at hq
 cases hq
theorem S_nil (d:Kd α) (e:Nat) (w:World) (base:Nat) (ok:Nat→Prop):S d e w base ok (.slice none 0 0) []:=⟨fun _=>0,R_nil _ _ _ _ _⟩
end
end Kd
end Go.Proofs.YtmfgajbkcnlkcaaGreatW.PrintWords
namespace Go.Proofs.YtmfgajbkcnlkcaaGreatW.PrintWords
open Go.RowKit
def Kept (w W:World) (S:Nat→Prop):Prop:=w.heap.size≤W.heap.size∧∀ i,i<w.heap.size→¬ S i→W.heap[i]? = w.heap[i]?
section
variable {w W W2:World} {S S2 S':Nat→Prop}
theorem Kept.refl (w:World) (S:Nat→Prop):Kept w w S:=⟨Nat.le_refl _,fun _ _ _=>rfl⟩
theorem Kept.then_ (h:Kept w W S) (k:Kept W W2 S2) (hs:∀ k,S2 k→S k∨w.heap.size≤k):Kept w W2 S:=
 ⟨Nat.le_trans h.1 k.1,fun i hi hn=>(k.2 i (Nat.lt_of_lt_of_le hi h.1) (fun h2=>(hs i h2).elim hn (fun h3=>by omega))).trans (h.2 i hi hn)⟩
theorem Kept.of_grown {row:Option Nat} (hg:W.grownBy W2 row) (h:Kept w W S) (hr:∀ k,row=some k→S k∨w.heap.size≤k):Kept w W2 S:=
 h.then_ (S2:=fun k=>row=some k) ⟨hg.size,fun i hi hn=>hg.block i hi (fun he=>hn he.symm)⟩ hr
theorem B5v {g:Nat} {o:Obj} (hb:W.heap[g]? = some o) (hk:Kept W W2 S) (hne:¬ S g):W2.heap[g]? = some o:=(hk.2 g (A2r hb) hne).trans hb
end
namespace Kd
end Kd
end Go.Proofs.YtmfgajbkcnlkcaaGreatW.PrintWords
namespace Go.Proofs.YtmfgajbkcnlkcaaGreatW.PrintWords
open Go.RowKit
def Foot (P:World→Prop) (W:World) (ok:Nat→Prop):Prop:=∀ W':World,(∀ k,ok k→k<W.heap.size→W'.heap[k]? = W.heap[k]?)→P W'
namespace Foot
variable {P Q:World→Prop} {W W1:World} {ok ok':Nat→Prop}
end Foot
namespace Kd
def F {α:Type} (d:Kd α) (W:World) (ok:Nat→Prop) (A:Option Addr) (n:Nat) (xs:List α):Prop:=Foot (fun W=>d.C W A n xs) W ok
def FK {α:Type} (d:Kd α) (W:World) (ok:Nat→Prop) (x:α) (c:List Value):Prop:=Foot (fun W=>d.K W x c) W ok
section
variable {α β:Type} {d:Kd α} {e base n n' cc g N:Nat} {ok ok' okp S:Nat→Prop} {w w0 w1 W W1:World} {A A':Option Addr} {u v v1:Value} {xs:List α} {xs':List β} {d':Kd β} {x:α} {c:List Value}
theorem D5f (d:Kd α) (W:World) (ok:Nat→Prop):F d W ok none ([]:List α).length []:=fun W' _=>D5h d W'
theorem C8d (h:d.M W base ok x c):FK d W ok x c:=fun _ hW=>d.K_of_M (C6c h hW)
end
end Kd
end Go.Proofs.YtmfgajbkcnlkcaaGreatW.PrintWords
namespace Go.Proofs.YtmfgajbkcnlkcaaGreatW.PrintWords
open Go.RowKit
namespace Kd
def A6l (sz:Nat) (n:Nat) (inner:List Value):List (List Value):=(List.range n).map fun j=>(inner.drop (j*sz)).take sz
theorem Y4 (sz n:Nat) (inner:List Value):(A6l sz n inner).length=n:=by simp [A6l]
theorem C0k {sz n:Nat} {inner:List Value} {j:Nat} (hj:j<n):(A6l sz n inner)[j]? = some ((inner.drop (j*sz)).take sz):=by simp [A6l,hj]
theorem A7x {sz n:Nat} {inner:List Value} {j:Nat} {c:List Value} (h:(A6l sz n inner)[j]? = some c):c=(inner.drop (j*sz)).take sz:=by
 have hj:j<n:=by have:=(List.getElem?_eq_some_iff.1 h).1;rwa [Y4] at this
 rw [C0k hj] at h
 injection h with h
 exact h.symm
theorem C3r {α:Type} {Rr:α→List Value→Prop} {sz:Nat} {xs:List α} {inner:List Value} (h:Reps Rr sz xs inner) (hR:∀ x c,Rr x c→c.length=sz∧∀ u∈c,u.oneCell'=true):Reps (fun x cs=>cs=x∧cs.length=sz∧∀ u∈cs,u.oneCell'=true) sz (A6l sz xs.length inner) inner:=by
 refine ⟨by rw [Y4];exact h.1,fun j p hj=>?_⟩
 have hjl:j<xs.length:=by have:=(List.getElem?_eq_some_iff.1 hj).1;rwa [Y4] at this
 have hp:=A7x hj
 exact ⟨hp.symm,hR _ _ (h.2 j _ (List.getElem?_eq_getElem hjl))⟩
section
variable {α:Type} {d:Kd α} {e base n cc g:Nat} {ok ok' okp S:Nat→Prop} {w w1 W W1:World} {A:Option Addr} {u v v1:Value} {xs:List α} {x:α} {c:List Value}
def N {α:Type} (d:Kd α) (e:Nat) (w:World) (base:Nat) (ok:Nat→Prop) (v:Value) (xs:List α):Prop:=
 (∀ k,v.ownBlock=some k→ok k)∧∃ rows:List (List Value),rows.length=xs.length∧(raw d.sz).R e w base (fun k=>some k=v.ownBlock) v rows∧∀ (j:Nat) (x:α) (c:List Value),xs[j]? = some x→rows[j]? = some c→FK d w (fun k=>ok k∧some k≠v.ownBlock) x c
theorem R_N (h:d.R e w base ok v xs):N d e w base ok v xs:=by
 obtain ⟨h0,inner,ho,hr⟩:=h
 refine ⟨h0,A6l d.sz xs.length inner,Y4 _ _ _,⟨fun k hk=>hk.symm,inner,by rw [Y4];exact ho,C3r hr (fun x c hp=>⟨d.K_len (d.K_of_M hp),d.K_one (d.K_of_M hp)⟩)⟩,fun j x c hx hc=>?_⟩
 rw [A7x hc]
 exact C8d (hr.2 j x hx)
theorem N_nil (d:Kd α) (e:Nat) (w:World) (base:Nat) (ok:Nat→Prop):N d e w base ok (.slice none 0 0) []:=R_N (R_nil _ _ _ _ _)
end
end Kd
end Go.Proofs.YtmfgajbkcnlkcaaGreatW.PrintWords
namespace Go.Proofs.YtmfgajbkcnlkcaaGreatW.PrintMore
open Go.RowKit Go.Proofs.YtmfgajbkcnlkcaaGreatW.PrintWords
namespace Kd
open Go.Proofs.YtmfgajbkcnlkcaaGreatW.PrintWords.Kd
end Kd
namespace Kd
open Go.Proofs.YtmfgajbkcnlkcaaGreatW.PrintWords.Kd
end Kd
theorem Z7 (k k':IntKind) (x y:Int):Builtin.max2 (.int k x) (.int k' y)=pure (.int k (if x<y then y else x)):=by simp only [Builtin.max2,gt_iff_lt]
theorem Z5 (k k':IntKind) (x y:Int):Builtin.min2 (.int k x) (.int k' y)=pure (.int k (if y<x then y else x)):=by simp only [Builtin.min2]
theorem A1h (ats:Array TypeId) (ty:TypeId) (a b:Value):Builtin.max_ ats ty #[a,b]=(Builtin.max2 a b >>= fun s=>pure s):=by simp only [Builtin.max_,List.foldlM_cons,List.foldlM_nil]
theorem A1g (ats:Array TypeId) (ty:TypeId) (a b:Value):Builtin.min_ ats ty #[a,b]=(Builtin.min2 a b >>= fun s=>pure s):=by simp only [Builtin.min_,List.foldlM_cons,List.foldlM_nil]
theorem W9 (ats:Array TypeId) (ty:TypeId) (a b c:Value):Builtin.max_ ats ty #[a,b,c]=(Builtin.max2 a b >>= fun s=>Builtin.max2 s c >>= fun s=>pure s):=by simp only [Builtin.max_,List.foldlM_cons,List.foldlM_nil]
theorem W8 (ats:Array TypeId) (ty:TypeId) (a b c:Value):Builtin.min_ ats ty #[a,b,c]=(Builtin.min2 a b >>= fun s=>Builtin.min2 s c >>= fun s=>pure s):=by simp only [Builtin.min_,List.foldlM_cons,List.foldlM_nil]
theorem Z6 (ats:Array TypeId) (ty:TypeId) (a b c d:Value):Builtin.max_ ats ty #[a,b,c,d]=(Builtin.max2 a b >>= fun s=>Builtin.max2 s c >>= fun s=>Builtin.max2 s d >>= fun s=>pure s):=by simp only [Builtin.max_,List.foldlM_cons,List.foldlM_nil]
theorem Z4 (ats:Array TypeId) (ty:TypeId) (a b c d:Value):Builtin.min_ ats ty #[a,b,c,d]=(Builtin.min2 a b >>= fun s=>Builtin.min2 s c >>= fun s=>Builtin.min2 s d >>= fun s=>pure s):=by simp only [Builtin.min_,List.foldlM_cons,List.foldlM_nil]
end Go.Proofs.YtmfgajbkcnlkcaaGreatW.PrintMore
namespace Go.Proofs.YtmfgajbkcnlkcaaGreatW.PrintWords
open Go.RowKit
section
variable {P:Program} {ops:Array Oper} {rest:List Oper} {o:Oper} {a:Act} {Q:Exit→Act→World→Prop} {W:World}
theorem M3 {f:FuncId} {as:Array Operand} {ts:Array TypeId} (_ho:o.op = .call { callee:=.value (.func f),args:=as,argTypes:=ts }) (h:wpList P ops Q (o::rest) a W):wpList P ops Q (o::rest) a W:=h
theorem P8 {b:Builtin} {xs:Array Operand} {ts:Array TypeId} (_ho:o.op = .call { callee:=.builtin b,args:=xs,argTypes:=ts }) (h:wpList P ops Q (o::rest) a W):wpList P ops Q (o::rest) a W:=h
end
def mn (a b:Int):Int:=if b<a then b else a
def shl (k:IntKind) (x y:Int):Int:=k.wrap (x*2 ^ min y.toNat k.bits)
def shr (k:IntKind) (x y:Int):Int:=x/2 ^ min y.toNat k.bits
namespace Kd
end Kd
end Go.Proofs.YtmfgajbkcnlkcaaGreatW.PrintWords
namespace Go.Proofs.YtmfgajbkcnlkcaaGreatW.PrintWords
open Go.RowKit
namespace Kd
def V {α:Type} (d:Kd α) (_e:Nat) (W:World) (_base:Nat) (ok:Nat→Prop) (v:Value) (xs:List α):Prop:=∃ A c,v = .slice A xs.length c∧xs.length≤c∧F d W ok A xs.length xs
section
variable {α β:Type} {d:Kd α} {e base base' n m c g N' lo hi:Nat} {ok ok' S:Nat→Prop} {w W w1:World} {A:Option Addr} {ad:Addr} {u v v1:Value} {xs:List α}
theorem V_nil (d:Kd α) (e:Nat) (W:World) (base:Nat) (ok:Nat→Prop):V d e W base ok (.slice none 0 0) []:=⟨none,0,rfl,Nat.le_refl _,D5f d W ok⟩
end
end Kd
end Go.Proofs.YtmfgajbkcnlkcaaGreatW.PrintWords
namespace Go.Proofs.YtmfgajbkcnlkcaaGreat.X0
open Go Go.RowKit Go.Proofs.YtmfgajbkcnlkcaaGreatW.PrintWords Go.Proofs.YtmfgajbkcnlkcaaGreatW.PrintLast Go.Proofs.YtmfgajbkcnlkcaaGreatW.PrintMore
section
variable {P:Program} {ops:Array Oper} {Q:Exit→Act→World→Prop}
theorem goesV_ {rest:List Oper} {oi:Oper} {a:Act} {w:World} (N:Option Tmp) (hd:oi.dst=N) (hg:oi.guard=none) {f:FuncId} {fn:Func} {x:Operand} {as:Array Operand} {ts:Array TypeId} (caps:Array Value)
 (hf:P.funcs[f]? = some fn) (hname:(fn.name == "runtime.NumGoroutine")=false) (hb:fn.body.isSome=true) (args:Array Value)
 (hop:oi.op = .call { callee:=.value x,args:=as,argTypes:=ts }) (hx:a.eval x = .func (.func f) #[] caps) (hargs:as.map a.eval=args)
 (h:Calls P f (args++caps) w fun e w'=>∃ v,e = .returned v∧wpList P ops Q rest (a.put N v) w'):wpList P ops Q (oi::rest) a w:=by
 refine wpList_plain hg fun K hK=>?_
 have he:=B4f hf hname hb (args++caps) w
 have hrun:(execOp a.eval oi).run P w = .ok (.enter f (args++caps)) w:=by
  have hx':Act.eval a x = .func (.func f) #[] caps:=hx
  unfold execOp
  simp [hop,resolve,Deferred.ofValue,invoke,hx',hargs,he]
 unfold Oper.wp
 rw [hrun,Oper.upon_enter]
 refine h.mono fun e w'' hh=>?_
 obtain ⟨v,rfl,hk⟩:=hh
 subst hd
 exact hK _ _ hk
end
def FnB {α:Type} (P:Program) (fc:FuncId) (caps:Array Value) (w:World) (enc:α→Value) (p:α→Bool):Prop:=
 ∃ fn,P.funcs[fc]? = some fn∧(fn.name == "runtime.NumGoroutine")=false∧fn.body.isSome=true ∧
  ∀ (x:α) (W:World),Below w.heap.size w W→Calls P fc (#[enc x]++caps) W fun e W'=>e = .returned (.bool (p x))∧Below W.heap.size W W'
def idx {α:Type} (p:α→Bool):List α→Int
 | []=>-1
 | x::l=>if p x=true then 0 else (if idx p l = -1 then -1 else idx p l+1)
theorem B0s {α:Type} (p:α→Bool) (l:List α) : -1≤idx p l∧idx p l<l.length:=by
 induction l with
 | nil=>exact ⟨by show (-1:Int)≤-1;decide,by show (-1:Int)<0;decide⟩
 | cons x l ih=>
   unfold idx
   rw [List.length_cons]
   split
   · omega
   · split<;>omega
theorem B5k {α:Type} (p:α→Bool) (z:α):∀ (l:List α) (i:Nat),i≤l.length→(∀ j,j<i→p (l.getD j z)=false)→
 idx p l=if idx p (l.drop i) = -1 then -1 else idx p (l.drop i)+i:=by
 intro l
 induction l with
 | nil=>
   intro i hi _
   have:i=0:=by simpa using hi
   subst this
   simp [idx]
 | cons x l ih=>
   intro i hi h
   cases i with
   | zero=>
     rw [List.drop_zero]
     split
     · assumption
     · omega
   | succ i=>
     have h0:p x=false:=h 0 (by omega)
     have hr:=ih i (by simpa using hi) (fun j hj=>h (j+1) (by omega))
     rw [List.drop_succ_cons]
     conv=>lhs;unfold idx
     rw [h0,if_neg (by decide),hr]
     have:=(B0s p (l.drop i)).1
     split
     · rw [if_pos rfl]
     · rw [if_neg (by omega)]
       omega
theorem idx_found {α:Type} (p:α→Bool) (z:α) (l:List α) (i:Nat) (hi:i<l.length) (h:∀ j,j<i→p (l.getD j z)=false) (ht:p (l.getD i z)=true):idx p l=i:=by
 have e:l.drop i=l.getD i z::l.drop (i+1):=by
  rw [List.drop_eq_getElem_cons hi,List.getD_eq_getElem?_getD,List.getElem?_eq_getElem hi]
  rfl
 rw [B5k p z l i (by omega) h,e]
 unfold idx
 rw [ht,if_pos rfl,if_neg (by decide)]
 omega
theorem idx_none {α:Type} (p:α→Bool) (z:α) (l:List α) (h:∀ j,j<l.length→p (l.getD j z)=false):idx p l = -1:=by
 rw [B5k p z l l.length (by omega) h,List.drop_length]
 rfl
theorem idx_any {α:Type} (p:α→Bool) (l:List α):decide (0≤idx p l)=l.any p:=by
 induction l with
 | nil=>rfl
 | cons x l ih=>
   unfold idx
   rw [List.any_cons,← ih]
   have:=(B0s p l).1
   cases hp:p x with
   | true=>simp
   | false=>
     simp only [Bool.false_eq_true,if_false,Bool.false_or]
     split
     · rename_i h
       rw [h]
     · rename_i h
       rw [Bool.eq_iff_iff,decide_eq_true_iff,decide_eq_true_iff]
       omega
end Go.Proofs.YtmfgajbkcnlkcaaGreat.X0
namespace Go.Proofs.YtmfgajbkcnlkcaaGreat.IN
open Go Go.RowKit Go.Proofs.YtmfgajbkcnlkcaaGreatW.PrintWords Go.Proofs.YtmfgajbkcnlkcaaGreatW.PrintLast Go.Proofs.YtmfgajbkcnlkcaaGreatW.PrintMore
section
variable {P:Program}
theorem A2u (w:World) (dT sT ty elem:TypeId) (b o dLen dCap:Nat) (a:Addr) (sLen sCap k:Nat) (cs:List Value)
 (hu:P.underlying dT=some (.slice elem)) (hs:(P.info? elem).map (·.size)=some k) (hn:cs.length=Nat.min sLen dLen*k)
 (hsrc:∀ j v,cs[j]? = some v→w.cell? (a.add j)=some v) (hdst:∀ j,j<cs.length→(w.cell? ⟨b,o+j,none⟩).isSome=true) (hfr:∀ j,j<cs.length→w.frozen? ⟨b,o+j,none⟩=false) (h1:∀ v∈cs,v.oneCell'=true) :
 (Builtin.copy_ #[dT,sT] ty #[.slice (some ⟨b,o,none⟩) dLen dCap,.slice (some a) sLen sCap]).run P w = .ok (goInt (Nat.min sLen dLen)) (w.setCells b o cs):=by
 have hl:=run_loadCells_list (P:=P) w a cs hsrc
 have hst:=run_storeCells_cells (P:=P) b o cs 0 w (by simpa using hdst) (by simpa using hfr) h1
 simp only [Nat.add_zero] at hst
 cases hq:P.info? elem with
 | none=>simp [hq] at hs
 | some i=>
   have hi:i.size=k:=by simpa [hq] using hs
   simp [Builtin.copy_,run_underlying hu,Builtin.lenOf,Builtin.firstCells,sizeOf,typeInfo,hq,hi,← hn,hl,hst]
theorem run_grow (w:World) (t ti ty e:TypeId) (i:TypeInfo) (z:Value) (size bytes:Nat) (ht:P.underlying t=some (.slice e)) {k:IntKind} (hti:P.underlying ti=some (.int k)) (hi:P.info? e=some i) (hz:i.zero=some z)
 (hsize:i.size=size) (hby:i.bytes=bytes) (hzs:z.cells.size=size) (hsz:0<size) (hb0:0<bytes)
 (A:Option Addr) (n c:Nat) (xs:List Value) (hxl:xs.length=n*size) (hnil:A=none→n=0) (hcell:∀ a,A=some a→∀ j u,xs[j]? = some u→w.cell? (a.add j)=some u) (kx:IntKind) (m:Nat) (hroom:c<n+m) (hm:m≠0)
 (hbytes:(n+m)*bytes≤140737488355328) :
 (Builtin.append_ #[t,ti] ty #[.slice A n c,.int kx m]).run P w =
   .ok (.slice (some ⟨w.heap.size,0,none⟩) (n+m) (grownCap w (n+m) c e)) (w.drew.alloc (.cells (xs.toArray++Builtin.zeroCells z.cells m++Builtin.zeroCells z.cells (grownCap w (n+m) c e-(n+m))) e)):=by
 subst hsize
 subst hby
 have hle:n+m≤140737488355328:=Nat.le_trans (Nat.le_mul_of_pos_right _ hb0) hbytes
 have hw:IntKind.i64.wrap (m:Int)=m:=by rw [IntKind.wrap_i64];omega
 have hneg:¬ ((m:Int)<0):=by omega
 have hmb:m*i.bytes≤140737488355328:=Nat.le_trans (Nat.mul_le_mul_right _ (Nat.le_add_left m n)) hbytes
 have hbig:¬ (281474976710656<(m:Int)*(i.bytes:Int)):=by
  rw [← Int.natCast_mul]
  omega
 have hsn:i.size≠0:=by omega
 have hn:¬ (n+m≤c):=by omega
 have h63':¬ (9223372036854775807<((n:Int)+(m:Int))):=by omega
 have hfit:=growslice_fits hroom hbytes
 have h48':¬ (281474976710656<Builtin.nextslicecap (n+m) c*i.bytes):=by omega
 have hmz:¬ (m*i.size=0):=Nat.mul_ne_zero hm hsn
 have hfo:(Builtin.firstCells i.size n (.slice A n c)).run P w.drew = .ok xs.toArray w.drew:=by
  cases A with
  | none=>
    have h0:=hnil rfl
    subst h0
    have hx:xs=[]:=List.eq_nil_of_length_eq_zero (by simpa using hxl)
    subst hx
    simp [Builtin.firstCells]
  | some a=>exact run_firstCells_some (P:=P) w.drew i.size n a n c xs hxl (by simpa using hcell a rfl)
 simp [Builtin.append_,run_underlying ht,run_underlying hti,sizeOf,typeInfo,zeroValue,hi,hz,asInt,asIntOf,hw,hneg,hbig,hn,h63',h48',Question.forced,hfo,newRow,grownCap,hmz]
end
section
variable {P:Program} {ops:Array Oper} {rest:List Oper} {o:Oper} {a:Act} {Q:Exit→Act→World→Prop}
theorem wp_append (w:World) (hgd:o.guard=none) (d s:Operand) (t t':TypeId) (ho:o.op = .call { callee:=.builtin .append,args:=#[d,s],argTypes:=#[t,t'] }) (v u:Value) (hd:a.eval d=v) (hs:a.eval s=u) {v':Value} {w':World}
 (hr:(Builtin.append_ #[t,t'] o.type #[v,u]).run P w = .ok v' w') (h:wpList P ops Q rest (a.put o.dst v') w'):wpList P ops Q (o::rest) a w:=
 wpList_plain hgd fun K hK=>by
  unfold Oper.wp execOp
  simp only [ho,resolve,invoke,builtin,Sem.run_bind,Sem.run_pure,Result.andThen_ok,List.map_toArray,List.map_cons,List.map_nil,hd,hs,hr]
  exact hK _ _ h
end
structure Flat {α:Type} (d:Kd α) (enc:α→List Value):Prop where
 open_:∀ {w:World} {base:Nat} {ok:Nat→Prop} {x:α} {cs:List Value},d.M w base ok x cs→cs=enc x
 mkM:∀ (w:World) (base:Nat) (ok:Nat→Prop) (x:α),d.M w base ok x (enc x)
 kopen:∀ {w:World} {x:α} {cs:List Value},d.K w x cs→cs=enc x
section
variable {α:Type} {d:Kd α} {enc:α→List Value}
theorem Flat.len (F:Flat d enc) (w:World) (x:α):(enc x).length=d.sz:=d.K_len (d.K_of_M (F.mkM w 0 (fun _=>True) x))
theorem Flat.one (F:Flat d enc) (w:World) (x:α):∀ u∈enc x,u.oneCell'=true:=d.K_one (d.K_of_M (F.mkM w 0 (fun _=>True) x))
theorem Flat.all_one (F:Flat d enc) (w:World) (xs:List α):∀ u∈xs.flatMap enc,u.oneCell'=true:=by
 intro u hu
 obtain ⟨x,_,hx⟩:=List.mem_flatMap.1 hu
 exact F.one w x u hx
theorem Flat.flen (F:Flat d enc) (w:World):∀ xs:List α,(xs.flatMap enc).length=xs.length*d.sz
 | []=>by simp
 | x::xs=>by rw [List.flatMap_cons,List.length_append,F.len w,F.flen w xs,List.length_cons,Nat.succ_mul,Nat.add_comm]
theorem B0b (F:Flat d enc) {R:α→List Value→Prop} (hR:∀ {x cs},R x cs→cs=enc x):∀ {xs:List α} {inner:List Value},Reps R d.sz xs inner→inner=xs.flatMap enc
 | [],inner,h=>List.eq_nil_of_length_eq_zero (by simpa using h.1)
 | x::xs,inner,h=>by
   have h1:inner.take d.sz=enc x:=by
    have:=hR (h.2 0 x rfl)
    simpa using this
   have h2:Reps R d.sz xs (inner.drop d.sz):=⟨by rw [List.length_drop,h.1,List.length_cons,Nat.succ_mul,Nat.add_sub_cancel],fun j p hj=>by
    have:=h.2 (j+1) p (by simpa using hj)
    rw [List.drop_drop,show d.sz+j*d.sz=(j+1)*d.sz by rw [Nat.succ_mul,Nat.add_comm]]
    exact this⟩
   rw [List.flatMap_cons,← h1,← B0b F hR h2,List.take_append_drop]
theorem B7p (F:Flat d enc) (w:World) (base:Nat) (ok:Nat→Prop):∀ xs:List α,Reps (d.M w base ok) d.sz xs (xs.flatMap enc)
 | []=>Reps.none _ _
 | x::xs=>by
   have h:=B7p F w base ok xs
   have h1:Reps (d.M w base ok) d.sz [x] (enc x):=⟨by simp [F.len w x],fun j p hj=>by
    cases j with
    | zero=>
      obtain rfl:x=p:=by simpa using hj
      rw [Nat.zero_mul,List.drop_zero,← F.len w x,List.take_length]
      exact F.mkM w base ok x
    | succ j=>simp at hj⟩
   exact Kd.reps_append h1 h
theorem R_raw (F:Flat d enc) {e base g n c:Nat} {w:World} {ok:Nat→Prop} {xs:List α} (h:d.R e w base ok (.slice (some ⟨g,0,none⟩) n c) xs) :
 n=xs.length∧xs.length≤c∧c≤maxLen∧base≤g∧ok g∧∃ cur,w.heap[g]? = some (.cells cur e (0,0))∧cur.size=c*d.sz∧∃ S,cur.toList=xs.flatMap enc++S:=by
 obtain ⟨hok,inner,hown,hr⟩:=h
 have hi:=B0b F F.open_ hr
 rcases hown.2 with ⟨hv,_⟩ | ⟨g',cap',cur,hv,hb,hh,h1,hcm,hcs,htake⟩
 · cases hv
 injection hv with ha hn hc
 injection ha with ha
 injection ha with hg
 subst hg;subst hc
 refine ⟨hn,h1,hcm,hb,hok g (by simp [Value.ownBlock]),cur,hh,hcs,cur.toList.drop (xs.length*d.sz),?_⟩
 rw [← hi,← htake,List.take_append_drop]
theorem R_of_raw (F:Flat d enc) {e base g c:Nat} {w:World} {ok:Nat→Prop} {xs:List α} (hb:base≤g) (hok:ok g) {cur:Array Value} (hh:w.heap[g]? = some (.cells cur e (0,0))) (hle:xs.length≤c) (hcm:c≤maxLen) (hcs:cur.size=c*d.sz) {S:List Value} (hL:cur.toList=xs.flatMap enc++S) :
 d.R e w base ok (.slice (some ⟨g,0,none⟩) xs.length c) xs:=by
 refine ⟨fun k hk=>?_,xs.flatMap enc,⟨F.flen w xs,.inr ⟨g,c,cur,rfl,hb,hh,hle,hcm,hcs,?_⟩⟩,B7p F w base _ xs⟩
 · obtain rfl:g=k:=by simpa [Value.ownBlock] using hk
   exact hok
 · rw [hL,← F.flen w xs,List.take_left]
end
theorem B8y {β:Type} (L A B E S:List β) (k:Nat) (hL:L=A++B++S) (hE:E.length=k) (hS:k≤S.length) :
 (L.take (A.length+k)++B++L.drop (A.length+k+B.length)).take A.length++E++(L.take (A.length+k)++B++L.drop (A.length+k+B.length)).drop (A.length+E.length)=A++E++B++S.drop k:=by
 subst hL
 have h1:(A++B++S).take (A.length+k)=A++(B++S).take k:=by
  rw [List.append_assoc,List.take_append,List.take_of_length_le (by omega)]
  congr 2
  omega
 have h2:(A++B++S).drop (A.length+k+B.length)=S.drop k:=by
  rw [show A.length+k+B.length=(A++B).length+k by rw [List.length_append];omega,List.drop_append]
  rw [List.drop_of_length_le (by omega),List.nil_append]
  congr 1
  omega
 obtain ⟨T,hT⟩:∃ T,T=(B++S).take k:=⟨_,rfl⟩
 have h3:T.length=k:=by rw [hT,List.length_take,List.length_append];omega
 rw [h1,h2,← hT]
 have h4:(A++T++B++S.drop k).take A.length=A:=by rw [List.append_assoc,List.append_assoc,List.take_left]
 have h5:(A++T++B++S.drop k).drop (A.length+E.length)=B++S.drop k:=by
  rw [hE,← h3,← List.length_append,List.append_assoc (A++T),List.drop_left]
 rw [h4,h5]
 simp only [List.append_assoc]
theorem B8z {β:Type} (A B E Z Z':List β) (k:Nat) (hE:E.length=k) (hZ:Z.length=k+B.length) :
 (((A++Z++Z').take A.length++E++(A++Z++Z').drop (A.length+E.length)).take (A.length+k)++B++((A++Z++Z').take A.length++E++(A++Z++Z').drop (A.length+E.length)).drop (A.length+k+B.length))=A++E++B++Z':=by
 have h1:(A++Z++Z').take A.length=A:=by rw [List.append_assoc,List.take_left]
 have h2:(A++Z++Z').drop (A.length+E.length)=Z.drop k++Z':=by
  rw [List.append_assoc,List.drop_append,List.drop_of_length_le (by omega),List.nil_append,show A.length+E.length-A.length=k by omega,List.drop_append]
  congr 1
  rw [show k-Z.length=0 by omega,List.drop_zero]
 obtain ⟨T,hT⟩:∃ T,T=Z.drop k:=⟨_,rfl⟩
 have h3:T.length=B.length:=by rw [hT,List.length_drop];omega
 rw [h1,h2,← hT]
 have h4:(A++E++(T++Z')).take (A.length+k)=A++E:=by rw [← hE,← List.length_append,List.take_left]
 have h5:(A++E++(T++Z')).drop (A.length+k+B.length)=Z':=by
  rw [← h3,← hE,← List.length_append,← List.length_append,← List.append_assoc,List.drop_left]
 rw [h4,h5]
section
variable {P:Program} {ops:Array Oper} {o:Oper} {a:Act} {Q:Exit→Act→World→Prop} {K:Act→World→Prop}
theorem step_copy {w:World} {E:Prop} (hg:o.guard=none) (d x:Operand) (dT sT:TypeId) (hop:o.op=Op.call { callee:=Callee.builtin Builtin.copy,args:=#[d,x],argTypes:=#[dT,sT] })
 (v u:Value) (hd:a.eval d=v) (hx:a.eval x=u) {v':Value} {w':World} (hr:(Builtin.copy_ #[dT,sT] o.type #[v,u]).run P w = .ok v' w') (hK:K (a.put o.dst v') w') :
 if Region.wanted o (yielded ops a.tmps)=true then Oper.wp P o a w K Q else E:=by
 have hw:Region.wanted o (yielded ops a.tmps)=true:=by simp [Region.wanted,hg]
 rw [if_pos hw]
 unfold Oper.wp
 simp [execOp,hop,resolve,invoke,builtin,hd,hx,hr,Result.andThen]
 exact hK
end
section
variable {P:Program} {α:Type} {d:Kd α} {enc:α→List Value}
theorem grown_set {W:World} {g:Nat} (cs:List Value) (o:Nat):W.grownBy (W.setCells g o cs) (some g):=by
 obtain ⟨s1,s2,s3,s4⟩:=A3n g cs o W
 exact ⟨s1,s2,s3,by rw [s4];exact Nat.le_refl _,fun k' _ hk'=>A0y cs _ k' (fun he=>hk' (by rw [he]))⟩
theorem insert_room (F:Flat d enc) {k:Nat} (hk:d.sz=k) {W:World} {xs:List α} {i:Nat} {x:α} {g c e:Nat} {cur:Array Value} (hc:W.heap[g]? = some (.cells cur e (0,0))) (hcs:cur.size=c*k) {S:List Value} (hL:cur.toList=xs.flatMap enc++S)
 (hi:i≤xs.length) (hroom:xs.length+1≤c) {vb e':Nat} {curv:Array Value} {Sv:List Value} (hne:vb≠g) (hcv:W.heap[vb]? = some (.cells curv e' (0,0))) (hLv:curv.toList=enc x++Sv)
 (t elem:TypeId) (ht:P.underlying t=some (.slice elem)) (hinfo:(P.info? elem).map (·.size)=some k) {W1 W2:World} (h1:W1=W.setCells g ((i+1)*k) ((xs.drop i).flatMap enc)) (h2:W2=W1.setCells g (i*k) (enc x)) :
 (∀ ty dc sc,(Builtin.copy_ #[t,t] ty #[.slice (some ⟨g,(i+1)*k,none⟩) (xs.length-i) dc,.slice (some ⟨g,i*k,none⟩) (xs.length+1-i) sc]).run P W = .ok (goInt ((xs.length-i:Nat):Int)) W1) ∧
 (∀ ty dc sc,(Builtin.copy_ #[t,t] ty #[.slice (some ⟨g,i*k,none⟩) (xs.length+1-i) dc,.slice (some ⟨vb,0,none⟩) 1 sc]).run P W1 = .ok (goInt 1) W2) ∧
 W.grownBy W2 (some g)∧∃ cur2 S2,W2.heap[g]? = some (.cells cur2 e (0,0))∧cur2.size=cur.size∧cur2.toList=(xs.take i++[x]++xs.drop i).flatMap enc++S2:=by
 subst hk
 have lA:((xs.take i).flatMap enc).length=i*d.sz:=by rw [F.flen W,List.length_take,Nat.min_eq_left hi]
 have lB:((xs.drop i).flatMap enc).length=(xs.length-i)*d.sz:=by rw [F.flen W,List.length_drop]
 have lE:(enc x).length=d.sz:=F.len W x
 have hL2:cur.toList=(xs.take i).flatMap enc++(xs.drop i).flatMap enc++S:=by rw [hL,← List.flatMap_append,List.take_append_drop]
 have hlen:cur.size=i*d.sz+(xs.length-i)*d.sz+S.length:=by rw [← Array.length_toList,hL2,List.length_append,List.length_append,lA,lB]
 have hm:(xs.length+1)*d.sz≤c*d.sz:=Nat.mul_le_mul_right _ hroom
 have hx1:(xs.length+1)*d.sz=i*d.sz+(xs.length-i)*d.sz+d.sz:=by rw [← Nat.add_mul,Nat.add_sub_cancel' hi,Nat.succ_mul]
 have hi1:(i+1)*d.sz=i*d.sz+d.sz:=Nat.succ_mul _ _
 obtain ⟨cur1,c1,z1,L1⟩:=T6 ((xs.drop i).flatMap enc) ((i+1)*d.sz) W cur hc (by rw [lB];omega)
 rw [← h1] at c1
 have hv1:W1.heap[vb]? = some (.cells curv e' (0,0)):=by rw [h1,A0y _ _ vb hne,hcv]
 obtain ⟨cur2,c2,z2,L2⟩:=T6 (enc x) (i*d.sz) W1 cur1 c1 (by rw [lE];omega)
 rw [← h2] at c2
 have cellA:∀ (w:World) (q:Nat) (cu:Array Value) (ee:Nat),w.heap[q]? = some (.cells cu ee (0,0))→∀ j,w.cell? ⟨q,j,none⟩=cu.toList[j]?:=fun w q cu ee hh j=>by rw [cell_of_row w q j cu ee (0,0) hh,Array.getElem?_toList]
 have e1:Nat.min (xs.length+1-i) (xs.length-i)=xs.length-i:=Nat.min_eq_right (by omega)
 have e2:Nat.min 1 (xs.length+1-i)=1:=Nat.min_eq_left (by omega)
 refine ⟨fun ty dc sc=>?_,fun ty dc sc=>?_,?_,cur2,S.drop d.sz,c2,by rw [z2,z1],?_⟩
 · have h:=A2u (P:=P) W t t ty elem g ((i+1)*d.sz) (xs.length-i) dc ⟨g,i*d.sz,none⟩ (xs.length+1-i) sc d.sz ((xs.drop i).flatMap enc) ht hinfo
    (by rw [lB,e1])
    (fun j v hj=>by
      rw [Addr.add_lit,cellA W g cur e hc,hL2,List.append_assoc,List.getElem?_append_right (by omega),lA,Nat.add_sub_cancel_left,List.getElem?_append_left (List.getElem?_eq_some_iff.1 hj).1,hj])
    (fun j hj=>by rw [cell_of_row W g _ cur e (0,0) hc];rw [lB] at hj;simp;omega) (fun j _=>Q6 hc _) (F.all_one W _)
   rw [h1,h,e1]
 · have h:=A2u (P:=P) W1 t t ty elem g (i*d.sz) (xs.length+1-i) dc ⟨vb,0,none⟩ 1 sc d.sz (enc x) ht hinfo
    (by rw [lE,e2,Nat.one_mul])
    (fun j v hj=>by
      rw [Addr.add_lit,Nat.zero_add,cellA W1 vb curv e' hv1,hLv,List.getElem?_append_left (List.getElem?_eq_some_iff.1 hj).1,hj])
    (fun j hj=>by rw [cell_of_row W1 g _ cur1 e (0,0) c1];rw [lE] at hj;simp;omega) (fun j _=>Q6 c1 _) (F.one W x)
   rw [h2,h,e2]
   rfl
 · have a1:=grown_set (W:=W) (g:=g) ((xs.drop i).flatMap enc) ((i+1)*d.sz)
   have a2:=grown_set (W:=W1) (g:=g) (enc x) (i*d.sz)
   rw [← h1] at a1
   rw [← h2] at a2
   obtain ⟨p1,p2,p3,p4,p5⟩:=a1
   obtain ⟨q1,q2,q3,q4,q5⟩:=a2
   exact ⟨q1.trans p1,q2.trans p2,q3.trans p3,Nat.le_trans p4 q4,fun k' hk' hn=>(q5 k' (Nat.lt_of_lt_of_le hk' p4) hn).trans (p5 k' hk' hn)⟩
 · have h:=B8y cur.toList ((xs.take i).flatMap enc) ((xs.drop i).flatMap enc) (enc x) S d.sz hL2 lE (by omega)
   rw [L2,L1]
   rw [lA,lE,← hi1] at h
   rw [lE,← hi1,h]
   simp [List.flatMap_append]
end
section
variable {P:Program} {α:Type} {d:Kd α} {enc:α→List Value}
theorem insert_grow (F:Flat d enc) {k:Nat} (hk:d.sz=k) {Wa Wd:World} {xs:List α} {i:Nat} {x:α} {g h e eg:Nat} {cur curh:Array Value} (hc:Wa.heap[g]? = some (.cells cur eg (0,0))) {S:List Value} (hL:cur.toList=xs.flatMap enc++S)
 (hh:Wa.heap[h]? = some (.cells curh e (0,0))) {Z Z':List Value} (hLh:curh.toList=(xs.take i).flatMap enc++Z++Z') (hZ:Z.length=(xs.length+1-i)*k)
 (hi:i≤xs.length) {vb e':Nat} {curv:Array Value} {Sv:List Value} (hgh:g≠h) (hcv:Wa.heap[vb]? = some (.cells curv e' (0,0))) (hLv:curv.toList=enc x++Sv)
 (t elem:TypeId) (ht:P.underlying t=some (.slice elem)) (hinfo:(P.info? elem).map (·.size)=some k) {W1 W2:World} (h1:W1=Wa.setCells h (i*k) (enc x)) (hd:Wd.heap=W1.heap) (h2:W2=Wd.setCells h ((i+1)*k) ((xs.drop i).flatMap enc)) :
 (∀ ty dc sc,(Builtin.copy_ #[t,t] ty #[.slice (some ⟨h,i*k,none⟩) (xs.length+1-i) dc,.slice (some ⟨vb,0,none⟩) 1 sc]).run P Wa = .ok (goInt 1) W1) ∧
 (∀ ty dc sc,(Builtin.copy_ #[t,t] ty #[.slice (some ⟨h,(i+1)*k,none⟩) (xs.length-i) dc,.slice (some ⟨g,i*k,none⟩) (xs.length-i) sc]).run P Wd = .ok (goInt ((xs.length-i:Nat):Int)) W2) ∧
 ∃ cur2,W2.heap[h]? = some (.cells cur2 e (0,0))∧cur2.size=curh.size∧cur2.toList=(xs.take i++[x]++xs.drop i).flatMap enc++Z':=by
 subst hk
 have lA:((xs.take i).flatMap enc).length=i*d.sz:=by rw [F.flen Wa,List.length_take,Nat.min_eq_left hi]
 have lB:((xs.drop i).flatMap enc).length=(xs.length-i)*d.sz:=by rw [F.flen Wa,List.length_drop]
 have lE:(enc x).length=d.sz:=F.len Wa x
 have hL2:cur.toList=(xs.take i).flatMap enc++(xs.drop i).flatMap enc++S:=by rw [hL,← List.flatMap_append,List.take_append_drop]
 have hx1:(xs.length+1-i)*d.sz=d.sz+(xs.length-i)*d.sz:=by rw [show xs.length+1-i=(xs.length-i)+1 by omega,Nat.succ_mul,Nat.add_comm]
 have hlen:curh.size=i*d.sz+(d.sz+(xs.length-i)*d.sz)+Z'.length:=by rw [← Array.length_toList,hLh,List.length_append,List.length_append,lA,hZ,hx1]
 have hi1:(i+1)*d.sz=i*d.sz+d.sz:=Nat.succ_mul _ _
 obtain ⟨cur1,c1,z1,L1⟩:=T6 (enc x) (i*d.sz) Wa curh hh (by rw [lE];omega)
 rw [← h1,← hd] at c1
 obtain ⟨cur2,c2,z2,L2⟩:=T6 ((xs.drop i).flatMap enc) ((i+1)*d.sz) Wd cur1 c1 (by rw [lB];omega)
 rw [← h2] at c2
 have hg1:Wd.heap[g]? = some (.cells cur eg (0,0)):=by rw [hd,h1,A0y _ _ g hgh,hc]
 have cellA:∀ (w:World) (q:Nat) (cu:Array Value) (ee:Nat),w.heap[q]? = some (.cells cu ee (0,0))→∀ j,w.cell? ⟨q,j,none⟩=cu.toList[j]?:=fun w q cu ee hh j=>by rw [cell_of_row w q j cu ee (0,0) hh,Array.getElem?_toList]
 have e1:Nat.min (xs.length-i) (xs.length-i)=xs.length-i:=Nat.min_self _
 have e2:Nat.min 1 (xs.length+1-i)=1:=Nat.min_eq_left (by omega)
 refine ⟨fun ty dc sc=>?_,fun ty dc sc=>?_,cur2,c2,by rw [z2,z1],?_⟩
 · have h:=A2u (P:=P) Wa t t ty elem h (i*d.sz) (xs.length+1-i) dc ⟨vb,0,none⟩ 1 sc d.sz (enc x) ht hinfo
    (by rw [lE,e2,Nat.one_mul])
    (fun j v hj=>by
      rw [Addr.add_lit,Nat.zero_add,cellA Wa vb curv e' hcv,hLv,List.getElem?_append_left (List.getElem?_eq_some_iff.1 hj).1,hj])
    (fun j hj=>by rw [cell_of_row Wa _ _ curh e (0,0) hh];rw [lE] at hj;simp;omega) (fun j _=>Q6 hh _) (F.one Wa x)
   rw [h1,h,e2]
   rfl
 · have h:=A2u (P:=P) Wd t t ty elem h ((i+1)*d.sz) (xs.length-i) dc ⟨g,i*d.sz,none⟩ (xs.length-i) sc d.sz ((xs.drop i).flatMap enc) ht hinfo
    (by rw [lB,e1])
    (fun j v hj=>by
      rw [Addr.add_lit,cellA Wd g cur eg hg1,hL2,List.append_assoc,List.getElem?_append_right (by omega),lA,Nat.add_sub_cancel_left,List.getElem?_append_left (List.getElem?_eq_some_iff.1 hj).1,hj])
    (fun j hj=>by rw [cell_of_row Wd _ _ cur1 e (0,0) c1];rw [lB] at hj;simp;omega) (fun j _=>Q6 c1 _) (F.all_one Wa _)
   rw [h2,h,e1]
 · have h:=B8z ((xs.take i).flatMap enc) ((xs.drop i).flatMap enc) (enc x) Z Z' d.sz lE (by rw [hZ,lB,hx1])
   rw [L2,L1,hLh]
   rw [lA,lE,← hi1] at h
   rw [lE,← hi1,h]
   simp [List.flatMap_append]
end
theorem R_cases {α:Type} {d:Kd α} {e base:Nat} {w:World} {ok:Nat→Prop} {v:Value} {xs:List α} (h:d.R e w base ok v xs):(v = .slice none 0 0∧xs=[])∨∃ g c,v = .slice (some ⟨g,0,none⟩) xs.length c:=by
 obtain ⟨_,inner,hown,hr⟩:=h
 rcases hown.2 with ⟨rfl,hn⟩ | ⟨g,cap,cur,rfl,_⟩
 · exact .inl ⟨rfl,List.eq_nil_of_length_eq_zero hn⟩
 · exact .inr ⟨g,cap,rfl⟩
theorem kept_grown {w w':World} {row:Option Nat} {S:Nat→Prop} (hg:w.grownBy w' row) (hr:∀ k,row=some k→S k):Kept w w' S:=⟨hg.size,fun i hi hn=>hg.block i hi (fun e=>hn (hr i e.symm))⟩
end Go.Proofs.YtmfgajbkcnlkcaaGreat.IN
namespace Go.Proofs.YtmfgajbkcnlkcaaGreat.DL
open Go Go.RowKit Go.Proofs.YtmfgajbkcnlkcaaGreatW.PrintWords Go.Proofs.YtmfgajbkcnlkcaaGreatW.PrintLast Go.Proofs.YtmfgajbkcnlkcaaGreatW.PrintMore Go.Proofs.YtmfgajbkcnlkcaaGreat.IN
theorem zeroCells_len (zc:Array Value) (n:Nat):(Builtin.zeroCells zc n).toList.length=n*zc.size:=by simp [Builtin.zeroCells]
theorem A8a (zc:Array Value) (n:Nat) (h:∀ v∈zc.toList,v.oneCell'=true):∀ v∈(Builtin.zeroCells zc n).toList,v.oneCell'=true:=by
 intro v hv
 simp only [Builtin.zeroCells,Array.toList_map,List.mem_map,Array.toList_range,List.mem_range] at hv
 obtain ⟨i,hi,rfl⟩:=hv
 have h0:0<zc.size:=by
  rcases Nat.eq_zero_or_pos zc.size with h0 | h0
  · rw [h0] at hi
    simp at hi
  · exact h0
 have hm:=Nat.mod_lt i h0
 rw [getElem!_pos zc _ hm]
 exact h _ (by simp)
section
variable {P:Program}
theorem run_clear_k (w:World) (t e ty:TypeId) (z:Value) (ht:P.underlying t=some (.slice e)) (hv:∀ w,(zeroValue e).run P w = .ok z w) (k:Nat) (hz:z.cells.size=k) (h1:∀ v∈z.cells.toList,v.oneCell'=true) (b o n c:Nat)
 (hc:∀ j,j<n*k→(w.cell? ⟨b,o+j,none⟩).isSome=true) (hf:∀ j,j<n*k→w.frozen? ⟨b,o+j,none⟩=false) :
 (Builtin.clear_ #[t] ty #[.slice (some ⟨b,o,none⟩) n c]).run P w = .ok (.tuple #[]) (w.setCells b o (Builtin.zeroCells z.cells n).toList):=by
 have hl:(Builtin.zeroCells z.cells n).toList.length=n*k:=by rw [zeroCells_len,hz]
 have hst:=run_storeCells_cells (P:=P) b o (Builtin.zeroCells z.cells n).toList 0 w (fun j hj=>by rw [hl] at hj;simpa using hc j hj) (fun j hj=>by rw [hl] at hj;simpa using hf j hj) (A8a _ _ h1)
 simp only [Nat.add_zero] at hst
 cases n with
 | zero=>
   have:(Builtin.zeroCells z.cells 0).toList=[]:=by simp [Builtin.zeroCells]
   rw [this]
   simp [Builtin.clear_,run_underlying ht,World.setCells]
 | succ m=>simp [Builtin.clear_,run_underlying ht,hv,hst]
end
theorem C4g {β:Type} (A M B S Z:List β) (hZ:Z.length=M.length) :
 (((A++M++B++S).take A.length++B++(A++M++B++S).drop (A.length+B.length)).take (A.length+B.length)++Z++((A++M++B++S).take A.length++B++(A++M++B++S).drop (A.length+B.length)).drop (A.length+B.length+Z.length))=A++B++(Z++S):=by
 have h1:(A++M++B++S).take A.length=A:=by rw [List.append_assoc,List.append_assoc,List.take_left]
 obtain ⟨D,hD⟩:∃ D,D=(A++M++B++S).drop (A.length+B.length):=⟨_,rfl⟩
 have h2:D.drop M.length=S:=by
  rw [hD,List.drop_drop,show A.length+B.length+M.length=(A++M++B).length by simp;omega,List.drop_left]
 rw [h1,← hD]
 have h4:(A++B++D).take (A.length+B.length)=A++B:=by rw [← List.length_append,List.take_left]
 have h5:(A++B++D).drop (A.length+B.length+Z.length)=S:=by
  rw [hZ,← List.drop_drop,← List.length_append,List.drop_left,h2]
 rw [h4,h5]
 simp only [List.append_assoc]
section
variable {α:Type} {d:Kd α} {enc:α→List Value}
theorem delete_row (F:Flat d enc) {k:Nat} (hk:d.sz=k) {W:World} {xs:List α} {i j:Nat} {g c e:Nat} {cur:Array Value} (hc:W.heap[g]? = some (.cells cur e (0,0))) (hcs:cur.size=c*k) {S:List Value} (hL:cur.toList=xs.flatMap enc++S)
 (hij:i≤j) (hj:j≤xs.length) {W1 W2:World} {Z:List Value} (hZ:Z.length=(xs.length-(i+(xs.length-j)))*k) (h1:W1=W.setCells g (i*k) ((xs.drop j).flatMap enc)) (h2:W2=W1.setCells g ((i+(xs.length-j))*k) Z) :
 ((xs.drop j).flatMap enc).length=(xs.length-j)*k∧(∀ u∈(xs.drop j).flatMap enc,u.oneCell'=true) ∧
 (∀ t u,((xs.drop j).flatMap enc)[t]? = some u→W.cell? ((⟨g,j*k,none⟩:Addr).add t)=some u) ∧
 (∀ t,t<((xs.drop j).flatMap enc).length→(W.cell? ⟨g,0+i*k+t,none⟩).isSome=true∧W.frozen? ⟨g,0+i*k+t,none⟩=false) ∧
 (∀ t,t<(xs.length-(i+(xs.length-j)))*k→(W1.cell? ⟨g,(i+(xs.length-j))*k+t,none⟩).isSome=true∧W1.frozen? ⟨g,(i+(xs.length-j))*k+t,none⟩=false) ∧
 W.grownBy W2 (some g)∧∃ cur2 S2,W2.heap[g]? = some (.cells cur2 e (0,0))∧cur2.size=cur.size∧cur2.toList=(xs.take i++xs.drop j).flatMap enc++S2:=by
 subst hk
 obtain ⟨M,hM⟩:∃ M,M=((xs.drop i).take (j-i)):=⟨_,rfl⟩
 have hx:xs=xs.take i++M++xs.drop j:=by
  have:xs.drop j=(xs.drop i).drop (j-i):=by rw [List.drop_drop];congr 1;omega
  rw [hM,this,List.append_assoc,List.take_append_drop,List.take_append_drop]
 have lM:M.length=j-i:=by rw [hM,List.length_take,List.length_drop];omega
 have lA:((xs.take i).flatMap enc).length=i*d.sz:=by rw [F.flen W,List.length_take,Nat.min_eq_left (by omega)]
 have lMe:(M.flatMap enc).length=(j-i)*d.sz:=by rw [F.flen W,lM]
 have lB:((xs.drop j).flatMap enc).length=(xs.length-j)*d.sz:=by rw [F.flen W,List.length_drop]
 have hL2:cur.toList=(xs.take i).flatMap enc++M.flatMap enc++(xs.drop j).flatMap enc++S:=by rw [hL,← List.flatMap_append,← List.flatMap_append,← hx]
 have e0:xs.length-(i+(xs.length-j))=j-i:=by omega
 have hj1:j*d.sz=i*d.sz+(j-i)*d.sz:=by rw [← Nat.add_mul];congr 1;omega
 have hs1:(i+(xs.length-j))*d.sz=i*d.sz+(xs.length-j)*d.sz:=Nat.add_mul _ _ _
 have hlen:cur.size=i*d.sz+(j-i)*d.sz+(xs.length-j)*d.sz+S.length:=by rw [← Array.length_toList,hL2,List.length_append,List.length_append,List.length_append,lA,lMe,lB]
 rw [e0] at hZ ⊢
 obtain ⟨cur1,c1,z1,L1⟩:=T6 ((xs.drop j).flatMap enc) (i*d.sz) W cur hc (by rw [lB];omega)
 rw [← h1] at c1
 obtain ⟨cur2,c2,z2,L2⟩:=T6 Z ((i+(xs.length-j))*d.sz) W1 cur1 c1 (by rw [hZ];omega)
 rw [← h2] at c2
 have cellA:∀ (w:World) (q:Nat) (cu:Array Value) (ee:Nat),w.heap[q]? = some (.cells cu ee (0,0))→∀ j,w.cell? ⟨q,j,none⟩=cu.toList[j]?:=fun w q cu ee hh j=>by rw [cell_of_row w q j cu ee (0,0) hh,Array.getElem?_toList]
 refine ⟨lB,F.all_one W _,fun t u ht=>?_,fun t ht=>⟨?_,Q6 hc _⟩,fun t ht=>⟨?_,Q6 c1 _⟩,?_,cur2,Z++S,c2,by rw [z2,z1],?_⟩
 · rw [Addr.add_lit,cellA W g cur e hc,hL2,List.getElem?_append_left (by have:=(List.getElem?_eq_some_iff.1 ht).1;rw [List.length_append,List.length_append,lA,lMe];rw [lB] at this ⊢;omega),List.getElem?_append_right (by rw [List.length_append,lA,lMe];omega),List.length_append,lA,lMe,← hj1,Nat.add_sub_cancel_left,ht]
 · rw [cell_of_row W g _ cur e (0,0) hc]
   rw [lB] at ht
   simp
   omega
 · rw [cell_of_row W1 g _ cur1 e (0,0) c1]
   simp
   omega
 · have a1:=grown_set (W:=W) (g:=g) ((xs.drop j).flatMap enc) (i*d.sz)
   have a2:=grown_set (W:=W1) (g:=g) Z ((i+(xs.length-j))*d.sz)
   rw [← h1] at a1
   rw [← h2] at a2
   obtain ⟨p1,p2,p3,p4,p5⟩:=a1
   obtain ⟨q1,q2,q3,q4,q5⟩:=a2
   exact ⟨q1.trans p1,q2.trans p2,q3.trans p3,Nat.le_trans p4 q4,fun k' hk' hn=>(q5 k' (Nat.lt_of_lt_of_le hk' p4) hn).trans (p5 k' hk' hn)⟩
 · have h:=C4g ((xs.take i).flatMap enc) (M.flatMap enc) ((xs.drop j).flatMap enc) S Z (by rw [hZ,lMe])
   rw [L2,L1,hL2]
   rw [lA,lB,← hs1] at h
   rw [lB,← hs1,h,← List.flatMap_append]
end
end Go.Proofs.YtmfgajbkcnlkcaaGreat.DL
namespace Go.Proofs.YtmfgajbkcnlkcaaGreat.DG
open Go Go.RowKit Go.Proofs.YtmfgajbkcnlkcaaGreatW.PrintWords Go.Proofs.YtmfgajbkcnlkcaaGreatW.PrintLast Go.Proofs.YtmfgajbkcnlkcaaGreatW.PrintMore Go.Proofs.YtmfgajbkcnlkcaaGreat.IN
theorem Z9 {α:Type} (z:α) (l:List α) (i:Nat) (h:i<l.length):l.getD i z=l[i]:=by
 rw [List.getD_eq_getElem?_getD,List.getElem?_eq_getElem h]
 rfl
theorem A0u {α:Type} (z:α) (l:List α) (i:Nat) (h:i<l.length):l.take (i+1)=l.take i++[l.getD i z]:=by
 rw [List.take_add_one,List.getD_eq_getElem?_getD,List.getElem?_eq_getElem h]
 rfl
theorem L9 {α:Type} (z:α) (l:List α) (i:Nat) (h:i<l.length):l.drop i=l.getD i z::l.drop (i+1):=by
 rw [List.drop_eq_getElem_cons h,Z9 z l i h]
theorem idx_cases {α:Type} (p:α→Bool) (z:α):∀ l:List α,(X0.idx p l = -1∧∀ x∈l,p x=false)∨∃ i:Nat,i<l.length∧X0.idx p l=(i:Int)∧p (l.getD i z)=true∧∀ x∈l.take i,p x=false
 | []=>.inl ⟨rfl,fun x hx=>by cases hx⟩
 | y::l=>by
   cases h:p y with
   | true=>exact .inr ⟨0,by simp,by unfold X0.idx;rw [if_pos h];rfl,h,fun x hx=>by simp at hx⟩
   | false=>
     rcases idx_cases p z l with ⟨e,ha⟩ | ⟨i,hi,e,ht,ha⟩
     · refine .inl ⟨by unfold X0.idx;rw [if_neg (by rw [h];decide),if_pos e],fun x hx=>?_⟩
       rcases List.mem_cons.1 hx with rfl | hx
       · exact h
       · exact ha x hx
     · refine .inr ⟨i+1,by simpa using hi,by unfold X0.idx;rw [if_neg (by rw [h];decide),if_neg (by rw [e];omega),e];omega,ht,fun x hx=>?_⟩
       rw [List.take_succ_cons] at hx
       rcases List.mem_cons.1 hx with rfl | hx
       · exact h
       · exact ha x hx
theorem filter_all {α:Type} (p:α→Bool):∀ l:List α,(∀ x∈l,p x=false)→l.filter (fun x=>!p x)=l
 | [],_=>rfl
 | x::l,h=>by
   rw [List.filter_cons_of_pos (by rw [h x List.mem_cons_self];rfl),filter_all p l fun y hy=>h y (List.mem_cons_of_mem _ hy)]
structure KI {α:Type} (p:α→Bool) (l xs:List α) (i j:Nat):Prop where
 len:xs.length=l.length
 lt:i<j
 le:j≤l.length
 head:xs.take i=(l.take j).filter fun x=>!p x
 tail:xs.drop j=l.drop j
section
variable {α:Type} {p:α→Bool} {l xs:List α} {i j:Nat}
theorem KI.start (z:α) (hi:i<l.length) (ht:p (l.getD i z)=true) (ha:∀ x∈l.take i,p x=false):KI p l l i (i+1) where
 len:=rfl
 lt:=Nat.lt_succ_self i
 le:=hi
 head:=by rw [A0u z l i hi,List.filter_append,filter_all p _ ha,List.filter_cons_of_neg (by rw [ht];decide),List.filter_nil,List.append_nil]
 tail:=rfl
theorem KI.at (z:α) (h:KI p l xs i j) (hj:j<l.length):xs.getD j z=l.getD j z:=by
 have e:=h.tail
 rw [L9 z xs j (by rw [h.len];exact hj),L9 z l j hj] at e
 injection e
theorem KI.keep (z:α) (h:KI p l xs i j) (hj:j<l.length) (hp:p (l.getD j z)=false):KI p l (xs.set i (l.getD j z)) (i+1) (j+1) where
 len:=by rw [List.length_set];exact h.len
 lt:=by have:=h.lt;omega
 le:=hj
 head:=by
  have h1:=h.len
  have h2:=h.lt
  have hi:i<(xs.set i (l.getD j z)).length:=by rw [List.length_set];omega
  rw [A0u z _ i hi,A0u z l j hj,List.filter_append,List.filter_cons_of_pos (by rw [hp];rfl),List.filter_nil,← h.head,List.take_set_of_le (Nat.le_refl i),Z9 z _ i hi,List.getElem_set_self]
 tail:=by
  have h2:=h.lt
  have e:=h.tail
  have:xs.drop (j+1)=l.drop (j+1):=by rw [← List.drop_drop (i:=1) (j:=j),e,List.drop_drop]
  rw [List.drop_set_of_lt (by omega),this]
theorem KI.skip (z:α) (h:KI p l xs i j) (hj:j<l.length) (hp:p (l.getD j z)=true):KI p l xs i (j+1) where
 len:=h.len
 lt:=by have:=h.lt;omega
 le:=hj
 head:=by rw [h.head,A0u z l j hj,List.filter_append,List.filter_cons_of_neg (by rw [hp];decide),List.filter_nil,List.append_nil]
 tail:=by
  have e:=h.tail
  rw [← List.drop_drop (i:=1) (j:=j),e,List.drop_drop]
theorem KI.done (h:KI p l xs i l.length):xs.take i=l.filter fun x=>!p x:=by
 have e:=h.head
 rwa [List.take_length] at e
end
def Raw {α:Type} (enc:α→List Value) (k e c g:Nat) (w:World) (xs:List α):Prop:=∃ (cur:Array Value) (S:List Value),w.heap[g]? = some (.cells cur e (0,0))∧cur.size=c*k∧cur.toList=xs.flatMap enc++S
section
variable {α:Type} {d:Kd α} {enc:α→List Value} {k e c g:Nat} {w W:World} {xs:List α}
theorem Raw.lt (h:Raw enc k e c g w xs):g<w.heap.size:=by
 obtain ⟨cur,S,hc,_,_⟩:=h
 exact A2r hc
theorem Raw.grown (h:Raw enc k e c g w xs) {row:Option Nat} (hb:w.grownBy W row) (hr:some g≠row):Raw enc k e c g W xs:=by
 obtain ⟨cur,S,hc,h1,h2⟩:=h
 exact ⟨cur,S,(hb.block g (A2r hc) hr).trans hc,h1,h2⟩
theorem Raw.later (h:Raw enc k e c g w xs) (hb:Below w.heap.size w W):Raw enc k e c g W xs:=h.grown (Z8 hb none) (by simp)
theorem Raw.frozen (h:Raw enc k e c g w xs) (o:Nat):w.frozen? ⟨g,o,none⟩=false:=by
 obtain ⟨cur,S,hc,_,_⟩:=h
 exact Q6 hc o
theorem Raw.cell (h:Raw enc k e c g w xs) (F:Flat d enc) (hk:d.sz=k) (z:α) (j q:Nat) (hj:j<xs.length) (u:Value) (hu:(enc (xs.getD j z))[q]? = some u):w.cell? ⟨g,j*k+q,none⟩=some u:=by
 obtain ⟨cur,S,hc,_,h2⟩:=h
 subst hk
 have hq:q<d.sz:=by rw [← F.len w (xs.getD j z)];exact (List.getElem?_eq_some_iff.1 hu).1
 have lA:((xs.take j).flatMap enc).length=j*d.sz:=by rw [F.flen w,List.length_take,Nat.min_eq_left (by omega)]
 have hx:xs=xs.take j++([xs.getD j z]++xs.drop (j+1)):=by
  rw [List.singleton_append,← L9 z xs j hj,List.take_append_drop]
 rw [cell_of_row w g _ cur e (0,0) hc,← Array.getElem?_toList,h2,hx,List.flatMap_append,List.flatMap_append,List.flatMap_singleton,List.append_assoc,List.getElem?_append_right (by omega),lA,Nat.add_sub_cancel_left,List.append_assoc,
  List.getElem?_append_left (by rw [F.len w];exact hq)]
 exact hu
theorem Raw.some_ (h:Raw enc k e c g w xs) (F:Flat d enc) (hk:d.sz=k) (o:Nat) (ho:o<xs.length*k):(w.cell? ⟨g,o,none⟩).isSome=true:=by
 obtain ⟨cur,S,hc,_,h2⟩:=h
 subst hk
 rw [cell_of_row w g _ cur e (0,0) hc,← Array.getElem?_toList,h2,List.getElem?_append_left (by rw [F.flen w];exact ho)]
 rw [List.getElem?_eq_getElem (by rw [F.flen w];exact ho)]
 rfl
theorem Raw.set (h:Raw enc k e c g w xs) (F:Flat d enc) (hk:d.sz=k) (i:Nat) (x:α) (hi:i<xs.length):Raw enc k e c g (w.setCells g (i*k) (enc x)) (xs.set i x):=by
 obtain ⟨cur,S,hc,h1,h2⟩:=h
 subst hk
 have lx:(enc x).length=d.sz:=F.len w x
 have lA:((xs.take i).flatMap enc).length=i*d.sz:=by rw [F.flen w,List.length_take,Nat.min_eq_left (by omega)]
 have hx:xs=xs.take i++([xs.getD i x]++xs.drop (i+1)):=by
  rw [List.singleton_append,← L9 x xs i hi,List.take_append_drop]
 have hxs:xs.set i x=xs.take i++([x]++xs.drop (i+1)):=by
  rw [List.set_eq_take_append_cons_drop,if_pos hi]
  rfl
 have hlen:cur.size=i*d.sz+d.sz+((xs.drop (i+1)).flatMap enc++S).length:=by
  rw [← Array.length_toList,h2,hx,List.flatMap_append,List.flatMap_append,List.flatMap_singleton,List.length_append,List.length_append,List.length_append,lA,F.len w,List.length_append]
  have:(xs.take i++([xs.getD i x]++xs.drop (i+1))).drop (i+1)=xs.drop (i+1):=by rw [← hx]
  rw [this]
  omega
 obtain ⟨cur',h3,h4,h5⟩:=T6 (enc x) (i*d.sz) w cur hc (by rw [lx];omega)
 refine ⟨cur',S,h3,by rw [h4];exact h1,?_⟩
 have e0:cur.toList=(xs.take i).flatMap enc++enc (xs.getD i x)++((xs.drop (i+1)).flatMap enc++S):=by
  rw [h2]
  conv=>lhs;rw [hx]
  rw [List.flatMap_append,List.flatMap_append,List.flatMap_singleton]
  simp only [List.append_assoc]
 have e1:cur.toList.take (i*d.sz)=(xs.take i).flatMap enc:=by rw [e0,← lA,List.append_assoc,List.take_left]
 have e2:cur.toList.drop (i*d.sz+(enc x).length)=(xs.drop (i+1)).flatMap enc++S:=by
  rw [e0,lx,← lA,← F.len w (xs.getD i x),← List.length_append,List.drop_left]
 rw [h5,e1,e2,hxs,List.flatMap_append,List.flatMap_append,List.flatMap_singleton]
 simp only [List.append_assoc]
theorem Raw.cut (h:Raw enc k e c g w xs) (F:Flat d enc) (hk:d.sz=k) (i:Nat) (hi:i≤xs.length) (Z:List Value) (hZ:Z.length=(xs.length-i)*k):Raw enc k e c g (w.setCells g (i*k) Z) (xs.take i):=by
 obtain ⟨cur,S,hc,h1,h2⟩:=h
 subst hk
 have lA:((xs.take i).flatMap enc).length=i*d.sz:=by rw [F.flen w,List.length_take,Nat.min_eq_left hi]
 have lB:((xs.drop i).flatMap enc).length=(xs.length-i)*d.sz:=by rw [F.flen w,List.length_drop]
 have e0:cur.toList=(xs.take i).flatMap enc++(xs.drop i).flatMap enc++S:=by rw [h2,← List.flatMap_append,List.take_append_drop]
 have hlen:cur.size=i*d.sz+(xs.length-i)*d.sz+S.length:=by rw [← Array.length_toList,e0,List.length_append,List.length_append,lA,lB]
 obtain ⟨cur',h3,h4,h5⟩:=T6 Z (i*d.sz) w cur hc (by rw [hZ];omega)
 refine ⟨cur',Z++S,h3,by rw [h4];exact h1,?_⟩
 have e1:cur.toList.take (i*d.sz)=(xs.take i).flatMap enc:=by rw [e0,← lA,List.append_assoc,List.take_left]
 have e2:cur.toList.drop (i*d.sz+Z.length)=S:=by rw [e0,hZ,← lA,← lB,← List.length_append,List.drop_left]
 rw [h5,e1,e2,List.append_assoc]
theorem Raw.of_R {base n:Nat} {ok:Nat→Prop} (F:Flat d enc) (h:d.R e w base ok (.slice (some ⟨g,0,none⟩) n c) xs):Raw enc d.sz e c g w xs:=by
 obtain ⟨_,_,_,_,_,cur,hc,hcs,S,hL⟩:=R_raw F h
 exact ⟨cur,S,hc,hcs,hL⟩
theorem Raw.to_R {base:Nat} {ok:Nat→Prop} (F:Flat d enc) (hk:d.sz=k) (h:Raw enc k e c g w xs) (hb:base≤g) (hok:ok g) (hle:xs.length≤c) (hcm:c≤maxLen):d.R e w base ok (.slice (some ⟨g,0,none⟩) xs.length c) xs:=by
 obtain ⟨cur,S,hc,h1,h2⟩:=h
 subst hk
 exact R_of_raw F hb hok hc hle hcm h1 h2
theorem Raw.reads (F:Flat d enc) (hk:d.sz=k) (h:Raw enc k e c g w xs) (hle:xs.length≤c) (hcm:c≤maxLen):d.C w (some ⟨g,0,none⟩) xs.length xs:=
 (Kd.R_reads' (Raw.to_R (base:=0) (ok:=fun _=>True) F hk h (Nat.zero_le _) trivial hle hcm)).2.2
end
theorem grown_below {w W W2:World} {row:Option Nat} (h:w.grownBy W row) (k:Below W.heap.size W W2):w.grownBy W2 row:=
 ⟨k.os.trans h.os,k.tape.trans h.tape,k.output.trans h.output,Nat.le_trans h.size k.size,fun i hi hr=>(k.block i (Nat.lt_of_lt_of_le hi h.size)).trans (h.block i hi hr)⟩
theorem grown_row {w W W2:World} {g:Nat} (h:w.grownBy W (some g)) (k:W.grownBy W2 (some g)):w.grownBy W2 (some g):=
 ⟨k.os.trans h.os,k.tape.trans h.tape,k.output.trans h.output,Nat.le_trans h.size k.size,fun i hi hr=>(k.block i (Nat.lt_of_lt_of_le hi h.size) hr).trans (h.block i hi hr)⟩
theorem cell_new (W:World) (cs:Array Value) (t q:Nat):(W.alloc (.cells cs t (0,0))).cell? ⟨W.heap.size,q,none⟩=cs[q]?:=cell_of_row _ _ q cs t (0,0) Array.getElem?_push_size
def FnG {α:Type} (P:Program) (fc:FuncId) (caps:Array Value) (w:World) (g:Nat) (enc:α→Value) (p:α→Bool):Prop:=
 ∃ fn,P.funcs[fc]? = some fn∧(fn.name == "runtime.NumGoroutine")=false∧fn.body.isSome=true ∧
  ∀ (x:α) (W:World),w.grownBy W (some g)→Calls P fc (#[enc x]++caps) W fun e W'=>e = .returned (.bool (p x))∧Below W.heap.size W W'
theorem FnG.below {α:Type} {P:Program} {fc:FuncId} {caps:Array Value} {w:World} {g:Nat} {enc:α→Value} {p:α→Bool} (h:FnG P fc caps w g enc p):X0.FnB P fc caps w enc p:=by
 obtain ⟨fn,h1,h2,h3,h4⟩:=h
 exact ⟨fn,h1,h2,h3,fun x W hW=>h4 x W (Z8 hW _)⟩
end Go.Proofs.YtmfgajbkcnlkcaaGreat.DG
namespace Go.Proofs.YtmfgajbkcnlkcaaGreatW.PrintLast
open Go.Proofs.YtmfgajbkcnlkcaaGreatW.PrintWords (B0)
def A4n (md:Region.Mode) (o:Oper):List Nat:=(o.after.toList.filter (fun e=>Region.binds md e)).map (fun e=>e.on)
def B4h (md:Region.Mode) (ops:Array Oper) (i:Nat) (oi:Oper):List Nat:=(List.range ops.size).filter fun j=>!(j == i)&&match ops[j]? with
 | some oj=>!(oj.after.any (fun e=>Region.binds md e&&e.on == i)||oi.apart ops oj)
 | none=>false
def rtab (md:Region.Mode) (ops:Array Oper):Bool×List (List Nat×List Nat):=(Region.noSelect ops,(List.range ops.size).map fun i=>match ops[i]? with
 | some o=>(A4n md o,B4h md ops i o)
 | none=>([],[]))
def A2j (T:List (List Nat×List Nat)) (l:List Bool) (i:Nat):Bool:=!l.getD i true&&match T[i]? with
 | some r=>r.1.all (fun j=>l.getD j false)
 | none=>false
def B0d (T:List (List Nat×List Nat)) (l:List Bool):List Nat:=(List.range T.length).filter (A2j T l)
def C0a (T:List (List Nat×List Nat)) (l:List Bool) (i:Nat):Bool:=match T[i]? with
 | some r=>r.2.all (fun j=>l.getD j true)
 | none=>false
def A9i (T:List (List Nat×List Nat)) (l:List Bool):Bool:=(List.range T.length).all fun j=>!l.getD j false||match T[j]? with
 | some r=>r.1.all (fun k=>l.getD k false)
 | none=>true
def A7l (T:List (List Nat×List Nat)) (i:Nat):Nat→Nat→Bool
 | 0,_=>false
 | fuel+1,d=>match T[d]? with
   | some r=>r.1.any fun j=>j == i||A7l T i fuel j
   | none=>false
def C4j (T:List (List Nat×List Nat)) (l:List Bool) (ds:List Nat) (i:Nat):Bool:=ds.all fun d=>l.getD d true||A7l T i T.length d
section
variable {md:Region.Mode} {ops:Array Oper} {T:Bool×List (List Nat×List Nat)} {l l' li lj lk:Array Bool} {ds:List Nat} {i j k:Nat}
theorem gd (l:Array Bool) (j:Nat) (b:Bool):l.getD j b=l.toList.getD j b:=by simp [Array.getD_eq_getD_getElem?,List.getD_eq_getElem?_getD]
theorem B0m (o:Oper) (p:Nat→Bool):o.after.all (fun e=>!Region.binds md e||p e.on)=(A4n md o).all p:=by
 unfold A4n
 rw [← Array.all_toList]
 induction o.after.toList with
 | nil=>rfl
 | cons e r ih=>
   rw [List.all_cons,ih,List.filter_cons]
   cases h:Region.binds md e<;>simp
theorem B8m (o:Oper) (p:Nat→Bool):o.after.any (fun e=>Region.binds md e&&p e.on)=(A4n md o).any p:=by
 unfold A4n
 rw [← Array.any_toList]
 induction o.after.toList with
 | nil=>rfl
 | cons e r ih=>
   rw [List.any_cons,ih,List.filter_cons]
   cases h:Region.binds md e<;>simp
theorem A1t:(rtab md ops).2.length=ops.size:=by simp [rtab]
theorem A3p {o:Oper} (h:ops[i]? = some o):(rtab md ops).2[i]? = some (A4n md o,B4h md ops i o):=by
 have hi:=(Array.getElem?_eq_some_iff.1 h).1
 unfold rtab
 rw [List.getElem?_map,List.getElem?_range hi,Option.map_some,h]
theorem A3q (h:ops[i]? = none):(rtab md ops).2[i]? = none:=by
 have hi:ops.size≤i:=Array.getElem?_eq_none_iff.1 h
 exact List.getElem?_eq_none (by rw [A1t];exact hi)
theorem B6e:A2j (rtab md ops).2 l.toList i=(!l.getD i true&&((ops[i]?).map (·.after.all fun e=>!Region.binds md e||l.getD e.on false)).getD false):=by
 unfold A2j
 rw [gd]
 cases h:ops[i]? with
 | none=>rw [A3q h];rfl
 | some o=>
   rw [A3p h]
   simp only [Option.map_some,Option.getD_some]
   rw [← B0m]
   simp only [gd]
theorem A8l:Region.ready md ops l=B0d (rtab md ops).2 l.toList:=by
 unfold Region.ready B0d
 rw [A1t]
 refine List.filter_congr (fun i _=>?_)
 rw [B6e]
theorem B9z:Region.free md ops l i=C0a (rtab md ops).2 l.toList i:=by
 unfold Region.free C0a
 cases h:ops[i]? with
 | none=>rw [A3q h]
 | some oi=>
   rw [A3p h]
   simp only [B4h]
   rw [List.all_filter]
   congr 1
   funext j
   rw [gd]
   cases hj:ops[j]? with
   | none=>cases (j == i)<;>cases (l.toList.getD j true)<;>simp
   | some oj=>
     cases (j == i)<;>cases (l.toList.getD j true)<;>cases (oj.after.any (fun e=>Region.binds md e&&e.on == i)||oi.apart ops oj)<;>simp_all
theorem C0i:Region.closedB md ops l=A9i (rtab md ops).2 l.toList:=by
 unfold Region.closedB A9i
 rw [A1t]
 congr 1
 funext j
 rw [gd]
 cases h:ops[j]? with
 | none=>rw [A3q h]
 | some o=>
   rw [A3p h]
   simp only
   rw [← B0m]
   simp only [gd]
theorem B4r:∀ (fuel d:Nat),Region.reachB md ops i fuel d=A7l (rtab md ops).2 i fuel d
 | 0,_=>rfl
 | fuel+1,d=>by
   unfold Region.reachB A7l
   cases h:ops[d]? with
   | none=>rw [A3q h]
   | some o=>
     rw [A3p h]
     simp only
     rw [← B8m]
     congr 1
     funext e
     rw [B4r fuel]
theorem C7k:Region.lastB md ops l ds i=C4j (rtab md ops).2 l.toList ds i:=by
 unfold Region.lastB C4j
 rw [A1t]
 congr 1
 funext d
 rw [gd,B4r]
theorem A5x (h:A2j T.2 l.toList i=true) (hT:rtab md ops=T):(Region.ready md ops l).contains i=true:=by
 subst hT
 rw [A8l]
 unfold B0d
 rw [List.contains_iff_mem,List.mem_filter,List.mem_range]
 refine ⟨?_,h⟩
 unfold A2j at h
 rw [Bool.and_eq_true] at h
 cases hq:(rtab md ops).2[i]? with
 | none=>rw [hq] at h;simp at h
 | some r=>exact (List.getElem?_eq_some_iff.1 hq).1
theorem B7k (h:(l.toList.set i true == l'.toList)=true):(l.setIfInBounds i true == l')=true:=by
 rw [beq_iff_eq] at h ⊢
 apply Array.ext'
 rw [Array.toList_setIfInBounds]
 exact h
def anyT (T:Bool×List (List Nat×List Nat)) (l l':List Bool) (i:Nat):Bool:=T.1&&C0a T.2 l i&&A2j T.2 l i&&(l.set i true == l')
theorem C6a (hT:rtab md ops=T) (h:anyT T l.toList l'.toList i=true):anyB md ops l l' i=true:=by
 simp only [anyT,Bool.and_eq_true] at h
 obtain ⟨⟨⟨h1,h2⟩,h3⟩,h4⟩:=h
 have h5:=A5x h3 hT
 have h6:=B7k h4
 subst hT
 simp only [anyB,Bool.and_eq_true]
 exact ⟨⟨⟨h1,by rw [B9z];exact h2⟩,h5⟩,h6⟩
def C6m (T:Bool×List (List Nat×List Nat)) (ds:List Nat) (l l':List Bool) (i:Nat):Bool:=T.1&&C0a T.2 l i&&A2j T.2 l i&&A9i T.2 l&&C4j T.2 l ds i&&(l.set i true == l')
theorem C6j (hT:rtab md ops=T) (h:C6m T ds l.toList l'.toList i=true):A9x md ops ds l l' i=true:=by
 simp only [C6m,Bool.and_eq_true] at h
 obtain ⟨⟨⟨⟨⟨h1,h2⟩,h3⟩,h4⟩,h5⟩,h6⟩:=h
 have h7:=A5x h3 hT
 have h8:=B7k h6
 subst hT
 simp only [A9x,Bool.and_eq_true]
 exact ⟨⟨⟨⟨⟨h1,by rw [B9z];exact h2⟩,h7⟩,by rw [C0i];exact h4⟩,by rw [C7k];exact h5⟩,h8⟩
theorem A5a (hT:rtab md ops=T) (h:(B0d T.2 l.toList == [i]&&l.toList.set i true == l'.toList)=true):B4q md ops l l' i=true:=by
 simp only [Bool.and_eq_true] at h
 obtain ⟨h1,h2⟩:=h
 subst hT
 simp only [B4q,Bool.and_eq_true]
 exact ⟨by rw [A8l];exact h1,B7k h2⟩
theorem A3i (hT:rtab md ops=T) (h:(B0d T.2 l.toList == [])=true):(Region.ready md ops l == [])=true:=by
 subst hT
 rw [A8l]
 exact h
def upM (B:List Nat) (d:Nat):List Nat→Nat
 | []=>0
 | n::r=>(2 ^ n ||| (if n<d then B.getD n 0 else 0)) ||| upM B d r
def A3e (T:List (List Nat×List Nat)) (B:List Nat):Bool:=(List.range T.length).all fun d=>match T[d]? with
 | some r=>(B.getD d 0 ||| upM B d r.1) == upM B d r.1
 | none=>false
theorem B7a {B:List Nat} {d i:Nat}:∀ {ns:List Nat},(upM B d ns).testBit i=true→∃ n∈ns,n=i∨(n<d∧(B.getD n 0).testBit i=true)
 | [],h=>by simp [upM] at h
 | n::r,h=>by
   unfold upM at h
   rw [Nat.testBit_or,Nat.testBit_or,Bool.or_eq_true,Bool.or_eq_true] at h
   rcases h with (h | h) | h
   · rw [Nat.testBit_two_pow] at h
     exact ⟨n,List.mem_cons_self,.inl (by simpa using h)⟩
   · by_cases hn:n<d
     · rw [if_pos hn] at h
       exact ⟨n,List.mem_cons_self,.inr ⟨hn,h⟩⟩
     · rw [if_neg hn] at h
       simp at h
   · obtain ⟨m,hm,h2⟩:=B7a h
     exact ⟨m,List.mem_cons_of_mem _ hm,h2⟩
theorem B0e {T:List (List Nat×List Nat)} {B:List Nat} (hB:A3e T B=true):∀ (fuel d:Nat),d<fuel→d<T.length→(B.getD d 0).testBit i=true→A7l T i fuel d=true
 | 0,d,h,_,_=>by omega
 | fuel+1,d,h,hd,hb=>by
   have h1:=List.all_eq_true.1 hB d (List.mem_range.2 hd)
   cases hr:T[d]? with
   | none=>rw [hr] at h1;simp at h1
   | some r=>
     rw [hr] at h1
     simp only [beq_iff_eq] at h1
     have h2:(upM B d r.1).testBit i=true:=by rw [← h1,Nat.testBit_or,hb,Bool.true_or]
     obtain ⟨n,hn,h3⟩:=B7a h2
     unfold A7l
     rw [hr]
     simp only
     rw [List.any_eq_true]
     refine ⟨n,hn,?_⟩
     rcases h3 with rfl | ⟨h4,h5⟩
     · simp
     · rw [B0e hB fuel n (by omega) (by omega) h5,Bool.or_true]
def C9l (T:List (List Nat×List Nat)) (B:List Nat) (l:List Bool) (ds:List Nat) (i:Nat):Bool:=ds.all fun d=>l.getD d true||(decide (d<T.length)&&(B.getD d 0).testBit i)
def C6l (T:Bool×List (List Nat×List Nat)) (B:List Nat) (ds:List Nat) (l l':List Bool) (i:Nat):Bool:=T.1&&C0a T.2 l i&&A2j T.2 l i&&A9i T.2 l&&C9l T.2 B l ds i&&(l.set i true == l')
theorem C3l {B:List Nat} (hT:rtab md ops=T) (hB:A3e T.2 B=true) (h:C6l T B ds l.toList l'.toList i=true):A9x md ops ds l l' i=true:=by
 refine C6j hT ?_
 simp only [C6l,C6m,Bool.and_eq_true] at h ⊢
 obtain ⟨⟨⟨⟨⟨h1,h2⟩,h3⟩,h4⟩,h5⟩,h6⟩:=h
 refine ⟨⟨⟨⟨⟨h1,h2⟩,h3⟩,h4⟩,?_⟩,h6⟩
 unfold C9l at h5
 unfold C4j
 rw [List.all_eq_true] at h5 ⊢
 intro d hd
 have h7:=h5 d hd
 rw [Bool.or_eq_true,Bool.and_eq_true,decide_eq_true_eq] at h7
 rcases h7 with h7 | ⟨h8,h9⟩
 · rw [h7,Bool.true_or]
 · rw [B0e hB _ d h8 h8 h9,Bool.or_true]
theorem A0t {P:Program} {Q:Exit→Act→World→Prop} {S:World→Prop} {n:Nat} {a:Act} {w:World} {B:List Nat} (hT:rtab md ops=T) (hB:A3e T.2 B=true) (h:B0 (rtab md ops=T)→B0 (A3e T.2 B=true)→J3 P md ops Q S ds n l a w):J3 P md ops Q S ds n l a w:=h ⟨hT⟩ ⟨hB⟩
end
def A6x:Code→Nat→Option (Array Oper)
 | .region id ops _,k=>if id == k then some ops else none
 | .seq a b,k=>match A6x a k with
   | some o=>some o
   | none=>A6x b k
 | .cond _ a b,k=>match A6x a k with
   | some o=>some o
   | none=>A6x b k
 | .block _ c,k=>A6x c k
 | .loop c,k=>A6x c k
 | .scope c,k=>A6x c k
 | .rangeFunc _ _ a b,k=>match A6x a k with
   | some o=>some o
   | none=>A6x b k
 | _,_=>none
def C8x (f:Func) (k:Nat):Array Oper:=((f.body.bind fun c=>A6x c k)).getD #[]
end Go.Proofs.YtmfgajbkcnlkcaaGreatW.PrintLast
namespace Go.Proofs.YtmfgajbkcnlkcaaGreatW.PrintWords
theorem Reps.front {α:Type} {R:α→List Value→Prop} {size:Nat} {ps:List α} {cs c all:List Value} {p:α} (hp:R p c) (hc:c.length=size) (h:Reps R size ps cs) (ha:c++cs=all):Reps R size (p::ps) all:=by
 subst ha
 refine ⟨by rw [List.length_append,hc,h.1,List.length_cons,Nat.succ_mul,Nat.add_comm],fun j q hq=>?_⟩
 cases j with
 | zero=>
   simp only [List.getElem?_cons_zero,Option.some.injEq] at hq
   subst hq
   rw [Nat.zero_mul,List.drop_zero,List.take_append_of_le_length (by omega),List.take_of_length_le (by omega)]
   exact hp
 | succ j=>
   simp only [List.getElem?_cons_succ] at hq
   have h1:=h.2 j q hq
   rw [Nat.succ_mul,List.drop_append,List.drop_of_length_le (by rw [hc];exact Nat.le_add_left _ _),List.nil_append,hc,Nat.add_sub_cancel]
   exact h1
theorem Reps.c3 {α:Type} {R:α→List Value→Prop} {ps:List α} {cs:List Value} {p:α} {va vb vc:Value} (hp:R p [va,vb,vc]) (h:Reps R 3 ps cs):Reps R 3 (p::ps) (va::vb::vc::cs):=Reps.front hp rfl h rfl
theorem Reps.c5 {α:Type} {R:α→List Value→Prop} {ps:List α} {cs:List Value} {p:α} {va vb vc vd ve:Value} (hp:R p [va,vb,vc,vd,ve]) (h:Reps R 5 ps cs):Reps R 5 (p::ps) (va::vb::vc::vd::ve::cs):=Reps.front hp rfl h rfl
end Go.Proofs.YtmfgajbkcnlkcaaGreatW.PrintWords
namespace Go.Proofs.YtmfgajbkcnlkcaaGreatW.PrintLast
def up (b:Nat→Bool) (i:Nat):Nat→Bool:=fun j=>if j=i then true else b j
end Go.Proofs.YtmfgajbkcnlkcaaGreatW.PrintLast
namespace Go.Proofs.YtmfgajbkcnlkcaaGreatW.PrintWords
open Go.RowKit
section
variable {P:Program} {ops:Array Oper} {rest:List Oper} {o:Oper} {a:Act} {Q:Exit→Act→World→Prop} {W:World}
theorem A1p (hw:Region.wanted o (yielded ops a.tmps)=true) (h:wpList P ops Q ({ o with guard:=none }::rest) a W):wpList P ops Q (o::rest) a W:=by
 have h1:Region.wanted { o with guard:=none } (yielded ops a.tmps)=true:=rfl
 unfold wpList at h ⊢
 rw [if_pos h1] at h
 rw [if_pos hw]
 exact h
end
end Go.Proofs.YtmfgajbkcnlkcaaGreatW.PrintWords
