/- What the law FnExactBookMove leans on, cut out of this repo's own texts by a program of this repo: plain functions, the walks that tie the Go calls to them, the law over lists and numbers, and the row. -/
import Derived.Test.YtmfgajbkcnlkcaaGreatZFnExactBookMove1
import Derived.OrdersHeld
import Derived.Below
import Derived.KernelRfl
namespace Go.Proofs.YtmfgajbkcnlkcaaGreat.P
end Go.Proofs.YtmfgajbkcnlkcaaGreat.P
namespace Go.Proofs.YtmfgajbkcnlkcaaGreat.AI
set_option linter.all false
open Go Go.RowKit
section
variable {R:Type} [RowT R]
structure A0h (P:Program) (w:World) (g:Nat→Value) (args:List V) (hp:List (Blk R)):Prop where
 ids:∀ v∈args,∀ id∈idsV v,id<hp.length
 idB:∀ (i:Nat) b,hp[i]? = some b→∀ j∈idsB b,j<hp.length
 blk:∀ (i:Nat) b,hp[i]? = some b→S3 P g w w.heap.size i b
 sep:∀ (i:Nat) b (i':Nat) b' n,hp[i]? = some b→hp[i']? = some b'→i≠i'→b.mut→HasB g i n b→¬ HasB g i' n b'
 one:∀ i,i<hp.length→(g i).oneCell'=true
 kind:∀ (i:Nat) b,hp[i]? = some b→b.handed
 plain:∀ v∈args,v≠.no∧EpOK P (A3v hp 0) v
def resC (g:Nat→Value):List W→Value
 | [y]=>O4 g y
 | ys=>.tuple (ys.map (O4 g)).toArray
structure B6x (P:Program) (w:World) (g:Nat→Value) (hp:List (Blk R)) (out:Out R) (c:Value) (w':World) (g':Nat→Value):Prop where
 val:c=resC g' out.res
 keep:∀ i,i<hp.length→g' i=g i
 ids:∀ y∈out.res,∀ id∈idsW y,id<out.hp.length
 idB:∀ (i:Nat) b,out.hp[i]? = some b→∀ j∈idsB b,j<out.hp.length
 blk:∀ (i:Nat) b,out.hp[i]? = some b→S3 P g' w' w.heap.size i b
 sep:∀ (i:Nat) b (i':Nat) b' n,out.hp[i]? = some b→out.hp[i']? = some b'→i≠i'→b.mut→HasB g' i n b→¬ HasB g' i' n b'
 old:∀ (i:Nat) b,hp[i]? = some b→∃ b1,out.hp[i]? = some b1∧S4 b b1
 new:∀ (i:Nat) b,hp.length≤i→out.hp[i]? = some b→(∃ r,b = .rows 2 r)∧∀ n,HasB g' i n b→w.heap.size≤n
 one:∀ i,i<out.hp.length→(g' i).oneCell'=true
 frame:Fr w (fun n=>∃ (i:Nat) (b:Blk R),hp[i]? = some b∧b.mut∧HasB g i n b) w'
def Good (P:Program) (f:FuncId) (args:List V) (hp:List (Blk R)) (out:Out R):Prop:=
 ∀ (w:World) (g:Nat→Value),A0h P w g args hp→Calls P f (args.map (H7 g)).toArray w fun e w'=>∃ c g',e = .returned c∧B6x P w g hp out c w' g'
structure G8 (P:Program) (c:Cal R):Prop where
 fn:∃ fn,P.funcs[c.f]? = some fn∧(fn.name == "runtime.NumGoroutine")=false∧fn.body.isNone=false
 ok:∀ (k:Nat) (args:List V) (hp:List (Blk R)) (Z:Type) (K:Out R→Option Z) (z:Z),c.sem k args hp Z K=some z→∃ out,K out=some z∧Good P c.f args hp out
def seen (g:Nat→Value) (src:List Nat) (i:Nat):Value:=g ((src[i]?).getD 0)
theorem A8u:∀ {l:List Nat},B3y l=true→l.Nodup
 | [],_=>List.nodup_nil
 | x::l,h=>by
   simp only [B3y,Bool.and_eq_true,Bool.not_eq_true',List.any_eq_false] at h
   exact List.nodup_cons.2 ⟨fun hm=>by have:=h.1 x hm;simp at this,A8u h.2⟩
theorem A3u {g G:Nat→Value}:∀ (cs ys:List C) (n:Nat) (ids:List Nat),A5d cs n=some (ys,ids)→(∀ k x,ids[k]? = some x→G (n+k)=g x)→
 ys.map (conc G)=cs.map (conc g)∧(∀ j∈ys.flatMap idsC,n≤j∧j<n+ids.length)∧ys.length=cs.length∧(∀ x∈ids,x∈cs.flatMap idsC)
 | [],ys,n,ids,h,_=>by simp only [A5d,Option.some.injEq,Prod.mk.injEq] at h;obtain ⟨rfl,rfl⟩:=h;simp
 | c::cs,ys,n,ids,h,hG=>by
   have step:∀ (v:Sc),c.val=some v→idsC c=[]→(∃ ys' ids',A5d cs n=some (ys',ids')∧ys = .sc v::ys'∧ids=ids')→ys.map (conc G)=(c::cs).map (conc g)∧(∀ j∈ys.flatMap idsC,n≤j∧j<n+ids.length)∧ys.length=(c::cs).length∧(∀ x∈ids,x∈(c::cs).flatMap idsC):=by
    rintro v hv hc ⟨ys',ids',hr,rfl,rfl⟩
    obtain ⟨h1,h2,h3,h4⟩:=A3u cs ys' n _ hr hG
    refine ⟨?_,by simpa [idsC] using h2,by simp [h3],fun x hx=>by rw [List.flatMap_cons,hc];exact h4 x hx⟩
    rw [List.map_cons,List.map_cons,h1,A3l (g:=g) hv];rfl
   have fin:∀ (v:Sc),c.val=some v→idsC c=[]→A5d (c::cs) n=(match c.val,A5d cs n with
    | some v,some (cs,ids)=>some (.sc v::cs,ids)
    | _,_=>none)→ys.map (conc G)=(c::cs).map (conc g)∧(∀ j∈ys.flatMap idsC,n≤j∧j<n+ids.length)∧ys.length=(c::cs).length∧(∀ x∈ids,x∈(c::cs).flatMap idsC):=by
    intro v hv hc e
    rw [h,hv] at e
    cases hr:A5d cs n with
    | none=>rw [hr] at e;simp at e
    | some p=>
      obtain ⟨ys',ids'⟩:=p
      rw [hr] at e
      simp only [Option.some.injEq,Prod.mk.injEq] at e
      exact step v hv hc ⟨ys',ids',hr,e.1,e.2⟩
   cases c with
   | rw id=>
     simp only [A5d] at h
     split at h
     · rename_i ys' ids' hr
       simp only [Option.some.injEq,Prod.mk.injEq] at h;obtain ⟨rfl,rfl⟩:=h
       obtain ⟨h1,h2,h3,h4⟩:=A3u cs ys' (n+1) ids' hr (fun k x hx=>by have:=hG (k+1) x (by simpa using hx);rwa [show n+(k+1)=n+1+k by omega] at this)
       refine ⟨?_,?_,by simp [h3],?_⟩
       · rw [List.map_cons,List.map_cons,h1];simp only [conc];rw [← hG 0 id (by simp)];rfl
       · intro j hj
         simp only [List.flatMap_cons,idsC,List.singleton_append,List.mem_cons] at hj
         rcases hj with rfl | hj
         · simp
         · have:=h2 j hj;simp only [List.length_cons];omega
       · intro x hx
         simp only [List.mem_cons] at hx
         rcases hx with rfl | hx
         · simp [idsC]
         · simp only [List.flatMap_cons,List.mem_append];exact .inr (h4 x hx)
     · simp at h
   | sc v=>exact fin v rfl rfl rfl
   | kb b=>exact fin (.b b) rfl rfl rfl
   | bo p i=>exact fin (.b (@decide p i)) rfl rfl rfl
   | nb p i=>exact fin (.b (!@decide p i)) rfl rfl rfl
def C6d (lent:Bool):Blk R→Blk R→Prop
 | .rows k r,b'=>∃ k',b' = .rows k' r∧(k'=0∨k'=1∧k≠0∧lent=true)
 | _,_=>False
theorem A7r {st:St R} {lent:Bool}:∀ (ids:List Nat) (bs:List (Blk R)),A2m st lent ids=some bs→bs.length=ids.length∧∀ (k:Nat) x,ids[k]? = some x→∃ b b',get st.hp x=some b∧bs[k]? = some b'∧C6d lent b b'
 | [],bs,h=>by simp only [A2m,Option.some.injEq] at h;subst h;simp
 | id::ids,bs,h=>by
   simp only [A2m] at h
   split at h
   · rename_i b hb
     split at h
     · rename_i b' bs' hl hr
       simp only [Option.some.injEq] at h;subst h
       obtain ⟨h1,h2⟩:=A7r ids bs' hr
       refine ⟨by simp [h1],fun k x hx=>?_⟩
       cases k with
       | zero=>
         simp only [List.getElem?_cons_zero,Option.some.injEq] at hx;subst hx
         refine ⟨b,b',hb,rfl,?_⟩
         unfold lend at hl
         split at hl
         · rename_i k r
           cases lent with
           | false=>simp only [cond_false,Option.some.injEq] at hl;subst hl;exact ⟨0,rfl,.inl rfl⟩
           | true=>
             simp only [cond_true] at hl
             split at hl
             · simp at hl
             · rename_i hk;simp only [Option.some.injEq] at hl;subst hl;exact ⟨1,rfl,.inr ⟨rfl,hk,rfl⟩⟩
         · simp at hl
       | succ k=>simpa using h2 k x (by simpa using hx)
     · simp at h
   · simp at h
theorem C8v {P:Program} [RowL P R] {g:Nat→Value} {w:World} {base base' id k:Nat} {r:R} (h:S3 P g w base id (.rows k r)):S3 P g w base' id (.rows 0 r):=by
 cases k with
 | zero=>exact h
 | succ k=>
   have hl:=h.1
   rcases h.2 with ⟨hv,h0⟩ | ⟨b,cap,cur,hv,_,hh,h1,h2,_,ht⟩
   · refine ⟨none,0,by rw [hv,h0],by omega,by omega,fun j u hu=>?_⟩
     have:=B5m (P:=P) hu;omega
   · refine ⟨some ⟨b,0,none⟩,cap,hv,h1,Nat.le_trans h1 h2,fun j u hu=>⟨_,rfl,?_⟩⟩
     rw [add_lit,cell_of_row w b _ cur _ _ hh]
     rw [← ht,List.getElem?_take] at hu
     split at hu
     · simpa using hu
     · simp at hu
theorem C3z {P:Program} {g:Nat→Value} {w:World} {base base' id k:Nat} {r:R} (h:S3 P g w base id (.rows (k+1) r)):S3 P g w base' id (.rows 1 r):=by
 obtain ⟨h1,h2⟩:=h
 refine ⟨h1,?_⟩
 rcases h2 with h2 | ⟨b,cap,cur,hv,_,h3⟩
 · exact .inl h2
 · exact .inr ⟨b,cap,cur,hv,by simp,h3⟩
def B1p (P:Program) (g G:Nat→Value) (w:World) (N i x:Nat) (b b':Blk R):Prop:=
 (∀ base,S3 P G w base i b')∧b'.handed∧(∀ n,HasB G i n b'→HasB g x n b)∧(b'.mut→b.mut∧(∀ n,T9 (g x)=some n→HasB G i n b'))∧(∀ j∈idsB b',j<N) ∧
   ((∃ k r k',b = .rows k r∧b' = .rows k' r)∨∃ t cs cs',b = .box t cs∧b' = .box t cs')
theorem B6p {P:Program} [RowL P R] {g G:Nat→Value} {w:World} {base N i x:Nat} {lent:Bool} {b b':Blk R} (hb:S3 P g w base x b) (hG:G i=g x) (hh:C6d lent b b'):B1p P g G w N i x b b':=by
 cases b with
 | rows k r=>
   obtain ⟨k',rfl,hk⟩:=hh
   have hbG:S3 P G w base i (.rows k r):=by
    cases k<;>simpa only [S3,hG] using hb
   rcases hk with rfl | ⟨rfl,hk,_⟩
   · refine ⟨fun base'=>C8v hbG,trivial,fun n hn=>?_,fun hm=>hm.elim,by simp [idsB],.inl ⟨k,r,0,rfl,rfl⟩⟩
     obtain ⟨h1,h2⟩:=hn
     rw [hG] at h1
     cases k with
     | zero=>exact ⟨h1,h2⟩
     | succ k=>exact h1
   · cases k with
     | zero=>exact absurd rfl hk
     | succ k=>
       refine ⟨fun base'=>C3z hbG,trivial,fun n hn=>?_,fun _=>⟨trivial,fun n hn=>?_⟩,by simp [idsB],.inl ⟨_,r,1,rfl,rfl⟩⟩
       · have:T9 (G i)=some n:=hn
         rw [hG] at this;exact this
       · show T9 (G i)=some n
         rw [hG];exact hn
 | box _ _=>exact hh.elim
 | dead=>exact hh.elim
end
end Go.Proofs.YtmfgajbkcnlkcaaGreat.AI
namespace Go.Proofs.YtmfgajbkcnlkcaaGreat.AI
set_option linter.all false
open Go Go.RowKit
section
variable {R:Type} [RowT R] {P:Program} [RowL P R] {w0:World} {L:Nat→Prop} {g0:Nat→Value} {hp0:List (Blk R)} {st st':St R} {g G:Nat→Value} {a:Act} {w w':World} {o:Oper}
def V.flatV:V→Prop
 | .w _=>True
 | .pt _ _=>True
 | _=>False
theorem C3w (h:Inv P w0 L g0 hp0 st g a w) {lent:Bool} {v v':V} {n N:Nat} {bs:List (Blk R)} {ids:List Nat} (hp:B7z st lent v n=some (v',bs,ids)) (hG:∀ k x,ids[k]? = some x→G (n+k)=g x) (hN:n+ids.length≤N) :
 H7 G v'=H7 g v∧(∀ j∈idsV v',n≤j∧j<n+ids.length)∧bs.length=ids.length∧(∀ k x,ids[k]? = some x→∃ b b',get st.hp x=some b∧bs[k]? = some b'∧B1p P g G w N (n+k) x b b')∧v'.flatV:=by
 have many:∀ {lent:Bool} {ids:List Nat} {bs:List (Blk R)} (m:Nat),A2m st lent ids=some bs→(∀ k x,ids[k]? = some x→G (m+k)=g x)→bs.length=ids.length∧(∀ k x,ids[k]? = some x→∃ b b',get st.hp x=some b∧bs[k]? = some b'∧B1p P g G w N (m+k) x b b'):=by
  intro lent ids bs m hl hG
  obtain ⟨h1,h2⟩:=A7r ids bs hl
  refine ⟨h1,fun k x hx=>?_⟩
  obtain ⟨b,b',h3,h4,h5⟩:=h2 k x hx
  exact ⟨b,b',h3,h4,B6p (h.heap.blk _ _ h3) (hG k x hx) h5⟩
 unfold B7z at hp
 split at hp
 · rename_i x
   split at hp
   · rename_i y ids' hc
     split at hp
     · rename_i bs' hl
       simp only [Option.some.injEq,Prod.mk.injEq] at hp
       obtain ⟨rfl,rfl,rfl⟩:=hp
       obtain ⟨h1,h2,h3,h4⟩:=A3u [x] [y] n _ hc hG
       obtain ⟨h5,h6⟩:=many n hl hG
       refine ⟨?_,by simpa [idsV,idsW] using h2,h5,h6,trivial⟩
       simp only [List.map_cons,List.map_nil,List.cons.injEq,and_true] at h1
       exact h1
     · simp at hp
   · simp at hp
 · rename_i xs
   split at hp
   · rename_i ys ids' hc
     split at hp
     · rename_i bs' hl
       simp only [Option.some.injEq,Prod.mk.injEq] at hp
       obtain ⟨rfl,rfl,rfl⟩:=hp
       obtain ⟨h1,h2,h3,h4⟩:=A3u xs ys n _ hc hG
       obtain ⟨h5,h6⟩:=many n hl hG
       exact ⟨by simp only [H7,O4,h1],by simpa [idsV,idsW] using h2,h5,h6,trivial⟩
     · simp at hp
   · simp at hp
 · rename_i id
   split at hp
   · rename_i t cs hb
     split at hp
     · rename_i ys ids' hc
       split at hp
       · rename_i bs' hl
         simp only [Option.some.injEq,Prod.mk.injEq] at hp
         obtain ⟨rfl,rfl,rfl⟩:=hp
         have hG':∀ k x,ids'[k]? = some x→G (n+1+k)=g x:=fun k x hx=>by have:=hG (k+1) x (by simpa using hx);rwa [show n+(k+1)=n+1+k by omega] at this
         have hG0:G n=g id:=hG 0 id (by simp)
         obtain ⟨h1,h2,h3,h4⟩:=A3u cs ys (n+1) _ hc hG'
         obtain ⟨h5,h6⟩:=many (n+1) hl hG'
         obtain ⟨b,hg,hh,hone⟩:=h.heap.blk _ _ hb
         refine ⟨by simp only [H7,hG0],by simp [idsV],by simp [h5],fun k x hx=>?_,trivial⟩
         cases k with
         | zero=>
           simp only [List.getElem?_cons_zero,Option.some.injEq] at hx
           subst hx
           refine ⟨_,_,hb,rfl,fun base=>⟨b,hG0.trans hg,by rw [h1];exact hh,fun c hc'=>?_⟩,trivial,fun m hm=>?_,fun _=>⟨trivial,fun m hm=>?_⟩,fun j hj=>?_,.inr ⟨t,cs,ys,rfl,rfl⟩⟩
           · have:conc G c∈cs.map (conc g):=by rw [← h1];exact List.mem_map.2 ⟨c,hc',rfl⟩
             obtain ⟨c1,hc1,e⟩:=List.mem_map.1 this
             rw [← e];exact hone c1 hc1
           · have:T9 (G n)=some m:=hm
             rw [hG0] at this;exact this
           · show T9 (G n)=some m
             rw [hG0];exact hm
           · have:=h2 j (by simpa [idsB] using hj)
             simp only [List.length_cons] at hN;omega
         | succ k=>
           obtain ⟨b1,b2,e1,e2,e3⟩:=h6 k x (by simpa using hx)
           exact ⟨b1,b2,e1,by simpa using e2,by rw [show n+(k+1)=n+1+k by omega];exact e3⟩
       · simp at hp
     · simp at hp
   · simp at hp
 · simp at hp
theorem C3x {lent:Bool} {v v':V} {n:Nat} {bs:List (Blk R)} {ids:List Nat} (hp:B7z st lent v n=some (v',bs,ids)):v≠.no:=by
 rintro rfl;simp [B7z] at hp
theorem B7y (h:Inv P w0 L g0 hp0 st g a w) {lent:Bool} {N:Nat}:∀ (xs:List Operand) (n:Nat) (vs:List V) (bs:List (Blk R)) (ids:List Nat),pack st lent xs n=some (vs,bs,ids)→(∀ k x,ids[k]? = some x→G (n+k)=g x)→n+ids.length≤N→
 vs.map (H7 G)=xs.map a.eval∧(∀ v∈vs,(∀ j∈idsV v,j<N)∧v.flatV)∧bs.length=ids.length∧(∀ k x,ids[k]? = some x→∃ b b',get st.hp x=some b∧bs[k]? = some b'∧B1p P g G w N (n+k) x b b')
 | [],n,vs,bs,ids,hp,_,_=>by
   simp only [pack,Option.some.injEq,Prod.mk.injEq] at hp
   obtain ⟨rfl,rfl,rfl⟩:=hp
   simp
 | x::xs,n,vs,bs,ids,hp,hG,hN=>by
   simp only [pack] at hp
   split at hp
   · rename_i v bs1 ids1 hv
     split at hp
     · rename_i vs2 bs2 ids2 hr
       simp only [Option.some.injEq,Prod.mk.injEq] at hp
       obtain ⟨rfl,rfl,rfl⟩:=hp
       rw [List.length_append] at hN
       have hG1:∀ k x,ids1[k]? = some x→G (n+k)=g x:=fun k x hx=>hG k x (by
        rw [List.getElem?_append_left];exact hx
        rcases Nat.lt_or_ge k ids1.length with q | q
        · exact q
        · rw [List.getElem?_eq_none q] at hx;simp at hx)
       have hG2:∀ k x,ids2[k]? = some x→G (n+ids1.length+k)=g x:=fun k x hx=>by
        have:=hG (ids1.length+k) x (by rw [List.getElem?_append_right (by omega),show ids1.length+k-ids1.length=k by omega];exact hx)
        rwa [← Nat.add_assoc] at this
       obtain ⟨h1,h2,h3,h4,h5⟩:=C3w (N:=N) h hv hG1 (by omega)
       obtain ⟨k1,k2,k3,k4⟩:=B7y (N:=N) h xs _ vs2 bs2 ids2 hr hG2 (by omega)
       have hev:=h.ev (x:=x) (C3x hv)
       refine ⟨by rw [List.map_cons,List.map_cons,k1,h1,hev.1],fun u hu=>?_,by simp [h3,k3],fun k y hy=>?_⟩
       · rcases List.mem_cons.1 hu with rfl | hu
         · exact ⟨fun j hj=>by have:=h2 j hj;omega,h5⟩
         · exact k2 u hu
       · rcases Nat.lt_or_ge k ids1.length with q | q
         · rw [List.getElem?_append_left q] at hy
           obtain ⟨b,b',e1,e2,e3⟩:=h4 k y hy
           exact ⟨b,b',e1,by rw [List.getElem?_append_left (by omega)];exact e2,e3⟩
         · rw [List.getElem?_append_right q] at hy
           obtain ⟨b,b',e1,e2,e3⟩:=k4 _ y hy
           exact ⟨b,b',e1,by rw [List.getElem?_append_right (by omega),h3];exact e2,by rw [show n+k=n+ids1.length+(k-ids1.length) by omega];exact e3⟩
     · simp at hp
   · simp at hp
structure C6b (P:Program) (st:St R) (g G:Nat→Value) (w:World) (vs:List V) (bs:List (Blk R)) (src:List Nat):Prop where
 len:bs.length=src.length
 name:∀ (k x:Nat),src[k]? = some x→G k=g x
 at_:∀ (k x:Nat),src[k]? = some x→∃ b b',get st.hp x=some b∧bs[k]? = some b'∧B1p P g G w src.length k x b b'
 nd:src.Nodup
 args:A0h P w G vs bs
theorem C8u (h:Inv P w0 L g0 hp0 st g a w) {lent:Bool} {xs:List Operand} {vs:List V} {bs:List (Blk R)} {src:List Nat} (hp:pack st lent xs 0=some (vs,bs,src)) (hn:B3y src=true) :
 vs.map (H7 (seen g src))=xs.map a.eval∧C6b P st g (seen g src) w vs bs src:=by
 have hG:∀ (k x:Nat),src[k]? = some x→seen g src k=g x:=fun k x hx=>by simp [seen,hx]
 obtain ⟨h1,h2,h3,h4⟩:=B7y (G:=seen g src) (N:=src.length) h xs 0 vs bs src hp (fun k x hx=>by rw [Nat.zero_add];exact hG k x hx) (by omega)
 simp only [Nat.zero_add] at h4
 have hnd:=A8u hn
 have back:∀ (i:Nat) b',bs[i]? = some b'→∃ x b,src[i]? = some x∧get st.hp x=some b∧B1p P g (seen g src) w src.length i x b b':=by
  intro i b' hb'
  have hi:i<src.length:=by
   rcases Nat.lt_or_ge i bs.length with q | q
   · omega
   · rw [List.getElem?_eq_none q] at hb';simp at hb'
  obtain ⟨b,b2,e1,e2,e3⟩:=h4 i _ (List.getElem?_eq_getElem hi)
  rw [hb'] at e2;injection e2 with e2;subst e2
  exact ⟨_,b,List.getElem?_eq_getElem hi,e1,e3⟩
 refine ⟨h1,h3,hG,h4,hnd,?_⟩
 refine ⟨fun v hv id hid=>by rw [h3];exact (h2 v hv).1 id hid,fun i b' hb' j hj=>?_,fun i b' hb'=>?_,fun i b1 i' b1' n hb hb' hne hm hh=>?_,fun i hi=>?_,fun i b' hb'=>?_,fun v hv=>?_⟩
 · obtain ⟨x,b,e1,e2,e3⟩:=back i b' hb'
   rw [h3];exact e3.2.2.2.2.1 j hj
 · obtain ⟨x,b,e1,e2,e3⟩:=back i b' hb'
   exact e3.1 _
 · obtain ⟨x,b,e1,e2,e3⟩:=back i b1 hb
   obtain ⟨x',b',f1,f2,f3⟩:=back i' b1' hb'
   intro hh'
   have hxx:x≠x':=by
    rintro rfl
    have hi:i<src.length:=by
     rcases Nat.lt_or_ge i src.length with q | q
     · exact q
     · rw [List.getElem?_eq_none q] at e1;simp at e1
    exact hne ((List.getElem?_inj hi hnd).1 (e1.trans f1.symm))
   exact h.heap.sep x b x' b' n e2 f2 hxx (e3.2.2.2.1 hm).1 (e3.2.2.1 n hh) (f3.2.2.1 n hh')
 · rw [h3] at hi
   rw [hG i _ (List.getElem?_eq_getElem hi)]
   obtain ⟨b,b2,e1,_,_⟩:=h4 i _ (List.getElem?_eq_getElem hi)
   exact h.heap.one _ (h.heap.idH _ _ e1)
 · obtain ⟨x,b,e1,e2,e3⟩:=back i b' hb'
   exact e3.2.1
 · obtain ⟨_,hf⟩:=h2 v hv
   cases v<;>first | exact hf.elim | exact ⟨by simp,trivial⟩
end
end Go.Proofs.YtmfgajbkcnlkcaaGreat.AI
namespace Go.Proofs.YtmfgajbkcnlkcaaGreat.AI
set_option linter.all false
open Go Go.RowKit
section
variable {R:Type} [RowT R]
theorem C8a {src:List Nat} {nx i x:Nat} (h:src[i]? = some x):back src nx i=x:=by simp [back,A0z,h]
theorem A2b {src:List Nat} {nx i:Nat} (h:src.length≤i):back src nx i=nx+(i-src.length):=by simp [back,A0z,List.getElem?_eq_none h]
def A4g (src:List Nat) (nx:Nat) (hp hp':List (Nat×Blk R)) (id:Nat) (o:Option (Blk R)) (b:Blk R):Prop:=
 match o,b with
 | some (.rows 0 _),.rows 0 _=>get hp' id=get hp id
 | some (.rows 1 _),.rows 1 r=>∃ k r0,get hp id=some (.rows k r0)∧get hp' id=some (.rows k r)
 | some (.box t _),.box _ cs=>get hp' id=some (.box t (cs.map (A6q src nx)))
 | none,.rows 2 r=>get hp' id=some (.rows 2 r)
 | _,_=>False
theorem A7z {src:List Nat} {nx:Nat}:∀ (l olds:List (Blk R)) (n:Nat) (hp hp':List (Nat×Blk R)),A2d src nx l olds n hp=some hp'→
 (∀ i j,n≤i→n≤j→i<n+l.length→j<n+l.length→back src nx i=back src nx j→i=j)→
 (∀ id,(∀ j,j<l.length→id≠back src nx (n+j))→get hp' id=get hp id)∧(∀ j b,l[j]? = some b→A4g src nx hp hp' (back src nx (n+j)) olds[j]? b)
 | [],olds,n,hp,hp',h,_=>by
   simp only [A2d,Option.some.injEq] at h;subst h
   simp
 | b::l,olds,n,hp,hp',h,hinj=>by
   have hrest:∀ (hp1:List (Nat×Blk R)) (olds1:List (Blk R)),A2d src nx l olds1 (n+1) hp1=some hp'→(∀ id,id≠back src nx n→get hp1 id=get hp id)→(∀ j,olds1[j]? = olds[j+1]?)→
    (get hp1 (back src nx n)=get hp' (back src nx n)→A4g src nx hp hp' (back src nx n) olds[0]? b)→
    (∀ id,(∀ j,j<(b::l).length→id≠back src nx (n+j))→get hp' id=get hp id)∧(∀ j c,(b::l)[j]? = some c→A4g src nx hp hp' (back src nx (n+j)) olds[j]? c):=by
    intro hp1 olds1 ha hsame hol htk
    obtain ⟨h1,h2⟩:=A7z l olds1 (n+1) hp1 hp' ha (fun i j a1 a2 a3 a4=>hinj i j (by omega) (by omega) (by simp;omega) (by simp;omega))
    have hne:∀ j,j<l.length→back src nx n≠back src nx (n+1+j):=fun j hj e=>by
     have:=hinj n (n+1+j) (by omega) (by omega) (by simp) (by simp;omega) e;omega
    have h0:=h1 (back src nx n) hne
    refine ⟨fun id hid=>?_,fun j c hc=>?_⟩
    · rw [h1 id (fun j hj=>by have:=hid (j+1) (by simpa using hj);rwa [show n+(j+1)=n+1+j by omega] at this)]
      exact hsame id (by have:=hid 0 (by simp);simpa using this)
    · cases j with
      | zero=>
        simp only [List.getElem?_cons_zero,Option.some.injEq] at hc;subst hc
        exact htk h0.symm
      | succ j=>
        simp only [List.getElem?_cons_succ] at hc
        have hj:j<l.length:=by
         rcases Nat.lt_or_ge j l.length with q | q
         · exact q
         · rw [List.getElem?_eq_none q] at hc;simp at hc
        have h3:=h2 j c hc
        rw [hol j] at h3
        rw [show n+(j+1)=n+1+j by omega]
        have hs:get hp1 (back src nx (n+1+j))=get hp (back src nx (n+1+j)):=hsame _ (fun e=>hne j hj e.symm)
        unfold A4g at h3 ⊢
        split at h3
        · rw [h3,hs]
        · rw [hs] at h3;exact h3
        · exact h3
        · exact h3
        · exact h3.elim
   simp only [A2d] at h
   split at h
   · -- read alone
     rename_i r0 olds' r1
     exact hrest hp olds' h (fun _ _=>rfl) (fun j=>by simp) (fun e=>by simp only [A4g,List.getElem?_cons_zero];exact e.symm)
   · -- lent
     rename_i r0 olds' r1
     split at h
     · rename_i k r2 hk
       exact hrest _ olds' h (fun id hid=>by rw [O5,if_neg (fun e=>hid e.symm)]) (fun j=>by simp) (fun e=>by
        simp only [A4g,List.getElem?_cons_zero]
        rw [O5,if_pos rfl] at e
        exact ⟨k,r2,hk,e.symm⟩)
     · simp at h
   · -- a variable
     rename_i t0 c0 olds' t1 cs
     exact hrest _ olds' h (fun id hid=>by rw [O5,if_neg (fun e=>hid e.symm)]) (fun j=>by simp) (fun e=>by
      simp only [A4g,List.getElem?_cons_zero]
      rw [O5,if_pos rfl] at e
      exact e.symm)
   · -- new
     rename_i r1
     exact hrest _ [] h (fun id hid=>by rw [O5,if_neg (fun e=>hid e.symm)]) (fun j=>by simp) (fun e=>by
      simp only [A4g,List.getElem?_nil]
      rw [O5,if_pos rfl] at e
      exact e.symm)
   · simp at h
end
end Go.Proofs.YtmfgajbkcnlkcaaGreat.AI
namespace Go.Proofs.YtmfgajbkcnlkcaaGreat.AI
set_option linter.all false
open Go Go.RowKit
section
variable {R:Type} [RowT R] {P:Program} [RowL P R] {w0:World} {L:Nat→Prop} {g0:Nat→Value} {hp0:List (Blk R)} {st st':St R} {g g':Nat→Value} {a:Act} {w w':World} {o:Oper}
omit [RowL P R] in
theorem C5f {w:World} {base id k:Nat} {r:R} (h:S3 P g w base id (.rows k r)):∃ A cap,g id = .slice A (RowT.len r) cap:=by
 cases k with
 | zero=>obtain ⟨A,cap,hg,_⟩:=h;exact ⟨A,cap,hg⟩
 | succ k=>
    rcases h.2 with ⟨hg,h0⟩ | ⟨b,cap,cur,hg,_⟩
    · exact ⟨none,0,by rw [hg,h0]⟩
    · exact ⟨_,cap,hg⟩
def C4m (g g':Nat→Value) (nx m id:Nat):Value:=if id<nx then g id else g' (m+(id-nx))
theorem L4 {α:Type} {l:List α} {i:Nat} {x:α} (h:l[i]? = some x):i<l.length:=by
 rcases Nat.lt_or_ge i l.length with q | q
 · exact q
 · rw [List.getElem?_eq_none q] at h;simp at h
theorem B1i {src:List Nat} {vs:List V} {bs:List (Blk R)} {out:Out R} {c:Value} {d:Option Nat} (h:Inv P w0 L g0 hp0 st g a w) (hpk:C6b P st g (seen g src) w vs bs src)
 (hres:B6x P w (seen g src) bs out c w' g') (hab:C0x st src bs d out=some st'):∃ g2,Inv P w0 L g0 hp0 st' g2 (a.put d c) w'∧(∀ i,i<st.nx→g2 i=g i)∧Tch g (A9l bs src) w w'∧(∀ id,id<st.nx→id ∉ A9l bs src→get st'.hp id=get st.hp id)∧st.nx≤st'.nx∧st'.nt=st.nt:=by
 unfold C0x at hab
 split at hab
 case h_2=>simp at hab
 rename_i hp' hH
 have hm:bs.length=src.length:=hpk.len
 -- the names
 have hsrc:∀ i,i<src.length→∃ x b b',src[i]? = some x∧get st.hp x=some b∧bs[i]? = some b'∧B1p P g (seen g src) w src.length i x b b'∧x<st.nx∧back src st.nx i=x:=fun i hi=>by
  obtain ⟨b,b',e1,e2,e3⟩:=hpk.at_ i _ (List.getElem?_eq_getElem hi)
  exact ⟨_,b,b',List.getElem?_eq_getElem hi,e1,e2,e3,h.heap.idH _ _ e1,C8a (List.getElem?_eq_getElem hi)⟩
 have hmN:src.length≤out.hp.length:=by
  rcases Nat.lt_or_ge out.hp.length src.length with q | q
  · obtain ⟨x,b,b',_,_,e3,_⟩:=hsrc _ q
    obtain ⟨b1,f1,_⟩:=hres.old _ _ e3
    have:=L4 f1;omega
  · exact q
 have hinj:∀ i j,0≤i→0≤j→i<0+out.hp.length→j<0+out.hp.length→back src st.nx i=back src st.nx j→i=j:=by
  intro i j _ _ hi hj e
  rcases Nat.lt_or_ge i src.length with qi | qi
  · obtain ⟨x,_,_,x1,_,_,_,x5,x6⟩:=hsrc i qi
    rcases Nat.lt_or_ge j src.length with qj | qj
    · obtain ⟨y,_,_,y1,_,_,_,y5,y6⟩:=hsrc j qj
      exact (List.getElem?_inj qi hpk.nd).1 (by rw [x1,y1,← x6,← y6,e])
    · rw [x6,A2b qj] at e;omega
  · rcases Nat.lt_or_ge j src.length with qj | qj
    · obtain ⟨y,_,_,y1,_,_,_,y5,y6⟩:=hsrc j qj
      rw [y6,A2b qi] at e;omega
    · rw [A2b qi,A2b qj] at e;omega
 obtain ⟨hkeep,htaken⟩:=A7z out.hp bs 0 st.hp hp' hH hinj
 simp only [Nat.zero_add] at hkeep htaken
 let g2:=C4m g g' st.nx src.length
 have hg2:∀ id,id<st.nx→g2 id=g id:=fun id hid=>by simp only [g2,C4m,if_pos hid]
 have hgB:∀ i,i<out.hp.length→g2 (back src st.nx i)=g' i:=by
  intro i hi
  rcases Nat.lt_or_ge i src.length with q | q
  · obtain ⟨x,_,_,x1,_,_,_,x5,x6⟩:=hsrc i q
    rw [x6,hg2 x x5,hres.keep i (by omega)]
    simp [seen,x1]
  · rw [A2b q]
    simp only [g2,C4m]
    rw [if_neg (by omega)]
    congr 1;omega
 have hBn:∀ i,i<out.hp.length→back src st.nx i<st.nx+(out.hp.length-src.length):=by
  intro i hi
  rcases Nat.lt_or_ge i src.length with q | q
  · obtain ⟨x,_,_,x1,_,_,_,x5,x6⟩:=hsrc i q
    omega
  · rw [A2b q];omega
 have hcC:∀ y:C,(∀ id∈idsC y,id<out.hp.length)→conc g2 (A6q src st.nx y)=conc g' y∧∀ id∈idsC (A6q src st.nx y),id<st.nx+(out.hp.length-src.length):=by
  intro y hy
  cases y with
  | rw id=>have:=hy id (by simp [idsC]);exact ⟨hgB id this,by simpa [A6q,idsC] using hBn id this⟩
  | _=>exact ⟨rfl,by simp [A6q,idsC]⟩
 have hcCs:∀ ys:List C,(∀ id∈ys.flatMap idsC,id<out.hp.length)→(ys.map (A6q src st.nx)).map (conc g2)=ys.map (conc g')∧∀ id∈(ys.map (A6q src st.nx)).flatMap idsC,id<st.nx+(out.hp.length-src.length):=by
  intro ys hy
  refine ⟨?_,fun id hid=>?_⟩
  · rw [List.map_map]
    exact List.map_congr_left fun c hc=>(hcC c fun id hid=>hy id (List.mem_flatMap.2 ⟨c,hc,hid⟩)).1
  · obtain ⟨c1,hc1,hq⟩:=List.mem_flatMap.1 hid
    obtain ⟨c,hc,rfl⟩:=List.mem_map.1 hc1
    exact (hcC c fun id hid=>hy id (List.mem_flatMap.2 ⟨c,hc,hid⟩)).2 id hq
 have hcW:∀ y:W,(∀ id∈idsW y,id<out.hp.length)→O4 g2 (C0s src st.nx y)=O4 g' y∧∀ id∈idsW (C0s src st.nx y),id<st.nx+(out.hp.length-src.length):=by
  intro y hy
  cases y with
  | c x=>exact hcC x hy
  | ag xs=>obtain ⟨h1,h2⟩:=hcCs xs hy;exact ⟨by simp only [O4,C0s,h1],h2⟩
 -- what has become of each name
 have cls:∀ id b,get hp' id=some b→
  (get st.hp id=some b∧id<st.nx∧∀ i ba,bs[i]? = some ba→ba.mut→id≠back src st.nx i) ∨
  (∃ i b0 ba bo,i<src.length∧id=back src st.nx i∧id<st.nx∧get st.hp id=some b0∧bs[i]? = some ba∧ba.mut∧out.hp[i]? = some bo∧B1p P g (seen g src) w src.length i id b0 ba ∧
    ((∃ k r r0 rr,b0 = .rows k r0∧b = .rows k r∧bo = .rows 1 r∧ba = .rows 1 rr)∨∃ t cs t' c0,b = .box t (cs.map (A6q src st.nx))∧bo = .box t' cs∧ba = .box t c0)) ∨
  (∃ i r,src.length≤i∧i<out.hp.length∧id=back src st.nx i∧st.nx≤id∧out.hp[i]? = some (.rows 2 r)∧b = .rows 2 r):=by
  intro id b hb
  by_cases hex:∃ i,i<out.hp.length∧id=back src st.nx i
  · obtain ⟨i,hi,rfl⟩:=hex
    have ht:=htaken i _ (List.getElem?_eq_getElem hi)
    rcases Nat.lt_or_ge i src.length with q | q
    · obtain ⟨x,b0,ba,x1,x2,x3,x4,x5,x6⟩:=hsrc i q
      rw [x3] at ht
      rw [x6] at ht hb ⊢
      generalize hbo:out.hp[i]=bo at ht
      have hbo':out.hp[i]? = some bo:=by rw [List.getElem?_eq_getElem hi,hbo]
      unfold A4g at ht
      split at ht
      · -- read alone
        rename_i heq
        injection heq with heq
        rw [hb] at ht
        refine .inl ⟨ht.symm,x5,fun j bj hj hmj=>fun e=>?_⟩
        have:=hinj i j (by omega) (by omega) (by omega) (by have:=L4 hj;omega) (x6.trans e)
        subst this
        rw [x3] at hj;injection hj with hj;subst hj
        rw [heq] at hmj;exact hmj
      · rename_i rr r heq
        injection heq with heq
        obtain ⟨k,r0,e1,e2⟩:=ht
        rw [hb] at e2;injection e2 with e2
        refine .inr (.inl ⟨i,b0,ba,_,q,x6.symm,x5,x2,x3,by rw [heq];trivial,hbo',x4,.inl ⟨k,_,r0,_,?_,e2,rfl,heq⟩⟩)
        rw [x2] at e1;injection e1
      · rename_i t c0 t' cs heq
        injection heq with heq
        rw [hb] at ht;injection ht with ht
        exact .inr (.inl ⟨i,b0,ba,_,q,x6.symm,x5,x2,x3,by rw [heq];trivial,hbo',x4,.inr ⟨_,_,_,_,ht,rfl,heq⟩⟩)
      · rename_i heq;simp at heq
      · exact ht.elim
    · have hn:bs[i]? = none:=List.getElem?_eq_none (by omega)
      obtain ⟨⟨r,hr⟩,_⟩:=hres.new i _ (by omega) (List.getElem?_eq_getElem hi)
      rw [hn,hr] at ht
      simp only [A4g] at ht
      rw [hb] at ht;injection ht with ht
      exact .inr (.inr ⟨i,r,q,hi,rfl,by rw [A2b q];omega,by rw [List.getElem?_eq_getElem hi,hr],ht⟩)
  · have hne:∀ j,j<out.hp.length→id≠back src st.nx j:=fun j hj e=>hex ⟨j,hj,e⟩
    have:=hkeep id hne
    rw [hb] at this
    exact .inl ⟨this.symm,h.heap.idH _ _ this.symm,fun i ba hi _=>hne i (by have:=L4 hi;omega)⟩
 -- where it lies
 have lies:∀ id b n,get hp' id=some b→HasB g2 id n b→(∃ b0,get st.hp id=some b0∧id<st.nx∧HasB g id n b0∧(b.mut→b0.mut))∨(∃ i r,src.length≤i∧i<out.hp.length∧id=back src st.nx i∧st.nx≤id∧out.hp[i]? = some (.rows 2 r)∧b = .rows 2 r∧HasB g' i n (Blk.rows 2 r)∧w.heap.size≤n):=by
  intro id b n hb hn
  rcases cls id b hb with ⟨e1,e2,_⟩ | ⟨i,b0,ba,bo,e1,e2,e3,e4,e5,e6,e7,e8,e9⟩ | ⟨i,r,e1,e2,e3,e4,e5,e6⟩
  · exact .inl ⟨b,e1,e2,(HasB.name (hg2 id e2)).1 hn,fun h=>h⟩
  · refine .inl ⟨b0,e4,e3,?_,fun _=>(e8.2.2.2.1 e6).1⟩
    have hbl:T9 (g id)=some n:=by
     rw [← hg2 id e3]
     rcases e9 with ⟨k,r,r0,rr,f1,f2,f3,f4⟩ | ⟨t,cs,t',c0,f1,f2,f3⟩
     · subst f2
       cases k with
       | zero=>exact hn.1
       | succ k=>exact hn
     · subst f1;exact hn
    exact e8.2.2.1 n ((e8.2.2.2.1 e6).2 n hbl)
  · subst e6
    have hn':HasB g' i n (Blk.rows 2 r):=by
     have:T9 (g2 id)=some n:=hn
     rw [e3,hgB i e2] at this;exact this
    exact .inr ⟨i,r,e1,e2,e3,e4,e5,rfl,hn',(hres.new i _ (by omega) e5).2 n hn'⟩
 have hsize:=h.heap.frame.size
 have hframe:∀ k,k<w.heap.size→(∀ id b0,get st.hp id=some b0→b0.mut→¬ HasB g id k b0)→w'.heap[k]? = w.heap[k]?:=by
  intro k hk hno
  refine hres.frame.block k hk ?_
  rintro ⟨i,ba,hi,hma,hna⟩
  obtain ⟨x,b0,ba',x1,x2,x3,x4,x5,x6⟩:=hsrc i (by have:=L4 hi;omega)
  rw [hi] at x3;injection x3 with x3;subst x3
  exact hno x b0 x2 (x4.2.2.2.1 hma).1 (x4.2.2.1 k hna)
 have hh:HOK P w0 L (st.nx+(out.hp.length-src.length)) hp' g2 w':=by
  refine ⟨fun id b hb j hj=>?_,fun id b hb=>?_,fun id b hb=>?_,fun id b id' b' n hb hb' hne hmut hn hn'=>?_,fun id b n hb hmut hn=>?_,fun id hid=>?_,?_⟩
  · rcases cls id b hb with ⟨e1,e2,_⟩ | ⟨i,b0,ba,bo,e1,e2,e3,e4,e5,e6,e7,e8,e9⟩ | ⟨i,r,e1,e2,e3,e4,e5,e6⟩
    · have:=h.heap.idB id b e1 j hj;omega
    · rcases e9 with ⟨k,r,r0,rr,f1,f2,f3,f4⟩ | ⟨t,cs,t',c0,f1,f2,f3⟩
      · subst f2;simp [idsB] at hj
      · subst f1
        exact (hcCs cs (fun id hid=>hres.idB i _ e7 id (by rw [f2];exact hid))).2 j hj
    · subst e6;simp [idsB] at hj
  · rcases cls id b hb with ⟨e1,e2,_⟩ | ⟨i,b0,ba,bo,e1,e2,e3,e4,e5,e6,e7,e8,e9⟩ | ⟨i,r,e1,e2,e3,e4,e5,e6⟩
    · omega
    · omega
    · rw [e3];exact hBn i e2
  · rcases cls id b hb with ⟨e1,e2,e3⟩ | ⟨i,b0,ba,bo,e1,e2,e3,e4,e5,e6,e7,e8,e9⟩ | ⟨i,r,e1,e2,e3,e4,e5,e6⟩
    · refine ((h.heap.blk id b e1).name (hg2 id e2) fun j hj=>hg2 j (h.heap.idB id b e1 j hj)).move fun n hn=>?_
      rw [HasB.name (hg2 id e2)] at hn
      refine hres.frame.block n (h.heap.lt e1 hn) ?_
      rintro ⟨i,ba,hi,hma,hna⟩
      obtain ⟨x,b0,ba',x1,x2,x3,x4,x5,x6⟩:=hsrc i (by have:=L4 hi;omega)
      rw [hi] at x3;injection x3 with x3;subst x3
      exact h.heap.sep x b0 id b n x2 e1 (fun e=>e3 i ba hi hma (by rw [x6,e])) (x4.2.2.2.1 hma).1 (x4.2.2.1 n hna) hn
    · have hgi:g2 id=g' i:=by rw [e2];exact hgB i (by omega)
      have hbo:=hres.blk i bo e7
      rcases e9 with ⟨k,r,r0,rr,f1,f2,f3,f4⟩ | ⟨t,cs,t',c0,f1,f2,f3⟩
      · subst f1;subst f2;subst f3
        cases k with
        | zero=>exact ((e8.2.2.2.1 e6).1).elim
        | succ k=>
          have hold:=h.heap.blk id _ e4
          obtain ⟨q1,q2⟩:=hbo
          refine ⟨q1,?_⟩
          rw [hgi]
          rcases q2 with q2 | ⟨bb,cap,cur,q2,_,q3⟩
          · exact .inl q2
          · refine .inr ⟨bb,cap,cur,q2,?_,q3⟩
            rcases hold.2 with ⟨p2,_⟩ | ⟨b1,cap1,cur1,p2,p3,_⟩
            · rw [← hg2 id e3,hgi,q2] at p2;simp at p2
            · rw [← hg2 id e3,hgi,q2] at p2
              simp only [Value.slice.injEq,Option.some.injEq,Addr.mk.injEq,and_true,true_and] at p2
              rw [p2.1];exact p3
      · subst f1;subst f2;subst f3
        obtain ⟨bb,q1,q2,q3⟩:=hbo
        obtain ⟨b1,s1,s2⟩:=hres.old i _ e5
        rw [e7] at s1;injection s1 with s1;subst s1
        have ht:t=t':=s2
        subst ht
        obtain ⟨c1,c2⟩:=hcCs cs (fun id hid=>hres.idB i _ e7 id hid)
        refine ⟨bb,hgi.trans q1,by rw [c1];exact q2,fun y hy=>?_⟩
        obtain ⟨y0,hy0,rfl⟩:=List.mem_map.1 hy
        rw [(hcC y0 (fun id hid=>hres.idB i _ e7 id (List.mem_flatMap.2 ⟨y0,hy0,hid⟩))).1]
        exact q3 y0 hy0
    · subst e6
      have hgi:g2 id=g' i:=by rw [e3];exact hgB i e2
      have hbo:=hres.blk i _ e5
      obtain ⟨q1,q2⟩:=hbo
      refine ⟨q1,?_⟩
      rw [hgi]
      rcases q2 with q2 | ⟨bb,cap,cur,q2,q4,q3⟩
      · exact .inl q2
      · exact .inr ⟨bb,cap,cur,q2,Nat.le_trans (by simpa using hsize) (by simpa using q4),q3⟩
  · rcases lies id b n hb hn with ⟨b0,e1,e2,e3,e4⟩ | ⟨i,r,e1,e2,e3,e4,e5,e6,e7,e8⟩
    · rcases lies id' b' n hb' hn' with ⟨b0',f1,f2,f3,f4⟩ | ⟨i',r',f1,f2,f3,f4,f5,f6,f7,f8⟩
      · exact h.heap.sep id b0 id' b0' n e1 f1 hne (e4 hmut) e3 f3
      · have:=h.heap.lt e1 e3;omega
    · rcases lies id' b' n hb' hn' with ⟨b0',f1,f2,f3,f4⟩ | ⟨i',r',f1,f2,f3,f4,f5,f6,f7,f8⟩
      · have:=h.heap.lt f1 f3;omega
      · exact hres.sep i _ i' _ n e5 f5 (fun e=>hne (by rw [e3,f3,e])) trivial e7 f7
  · rcases lies id b n hb hn with ⟨b0,e1,e2,e3,e4⟩ | ⟨i,r,e1,e2,e3,e4,e5,e6,e7,e8⟩
    · exact h.heap.mutL id b0 n e1 (e4 hmut) e3
    · exact .inl (Nat.le_trans hsize e8)
  · rcases Nat.lt_or_ge id st.nx with q | q
    · rw [hg2 id q];exact h.heap.one id q
    · have:g2 id=g' (src.length+(id-st.nx)):=by simp only [g2,C4m];rw [if_neg (by omega)]
      rw [this];exact hres.one _ (by omega)
  · refine ⟨hres.frame.os.trans h.heap.frame.os,hres.frame.tape.trans h.heap.frame.tape,hres.frame.output.trans h.heap.frame.output,Nat.le_trans hsize hres.frame.size,fun k hk hl=>?_⟩
    rw [hframe k (by omega) fun id b0 hb0 hm0 hn0=>?_]
    · exact h.heap.frame.block k hk hl
    · rcases h.heap.mutL id b0 k hb0 hm0 hn0 with q | q
      · omega
      · exact hl q
 have hsame1:∀ id k r,id<st.nx→get hp' id=some (.rows k r)→∃ k0 r0,get st.hp id=some (.rows k0 r0)∧RowT.len r=RowT.len r0∧RowT.ty r=RowT.ty r0:=by
  intro id k r hid hr
  rcases cls id _ hr with ⟨e1,e2,e3⟩ | ⟨i,b0,ba,bo,e1,e2,e3,e4,e5,e6,e7,e8,e9⟩ | ⟨i,r',e1,e2,e3,e4,e5,e6⟩
  · exact ⟨k,r,e1,rfl,rfl⟩
  · rcases e9 with ⟨k',r1,r0,rr,f1,f2,f3,f4⟩ | ⟨t,cs,t',c0,f1,f2,f3⟩
    · injection f2 with f5 f6
      subst f5;subst f6;subst f1;subst f3;subst f4
      refine ⟨k,r0,e4,?_,?_⟩
      · obtain ⟨A,cap,q1⟩:=C5f (h.heap.blk id _ e4)
        obtain ⟨A',cap',q2⟩:=C5f (hres.blk i _ e7)
        have:g2 id=g' i:=by rw [e2];exact hgB i (by omega)
        rw [hg2 id e3,q1,q2] at this
        injection this with _ t2 _
        exact t2.symm
      · obtain ⟨b1,s1,s2⟩:=hres.old i _ e5
        rw [e7] at s1;injection s1 with s1;subst s1
        have hrr:r0=rr:=by
         rcases e8.2.2.2.2.2 with ⟨k1,r1,k2,z1,z2⟩ | ⟨t,cs,cs',z1,_⟩
         · injection z1 with _ z3;injection z2 with _ z4;rw [z3,z4]
         · simp at z1
        rw [hrr];exact s2.2.symm
    · simp at f1
  · omega
 have hsame2:∀ id b,id<st.nx→get st.hp id=some b→b.handed→∃ b',get hp' id=some b'∧S4 b b':=by
  intro id b hid hb hhand
  by_cases hex:∃ i,i<out.hp.length∧id=back src st.nx i
  · obtain ⟨i,hi,rfl⟩:=hex
    have q:i<src.length:=by
     rcases Nat.lt_or_ge i src.length with q | q
     · exact q
     · rw [A2b q] at hid;omega
    have ht:=htaken i _ (List.getElem?_eq_getElem hi)
    obtain ⟨x,b0,ba,x1,x2,x3,x4,x5,x6⟩:=hsrc i q
    obtain ⟨bo,s1,s2⟩:=hres.old i _ x3
    have hbo:out.hp[i]=bo:=by rw [List.getElem?_eq_getElem hi] at s1;injection s1
    rw [x3,hbo] at ht
    rw [x6] at ht hb ⊢
    rw [x2] at hb;injection hb with hb;subst hb
    have hbb:=x4.2.2.2.2.2
    unfold A4g at ht
    split at ht
    · rw [x2] at ht;exact ⟨b0,ht,S4.refl hhand.dead⟩
    · rename_i rr r heq
      injection heq with heq
      obtain ⟨k,r0,e1,e2⟩:=ht
      rw [x2] at e1;injection e1 with e1;subst e1;subst heq
      refine ⟨_,e2,rfl,?_⟩
      rcases hbb with ⟨k1,r1,k2,z1,z2⟩ | ⟨t,cs,cs',z1,_⟩
      · injection z1 with _ z3;injection z2 with _ z4
        rw [z3,← z4];exact s2.2
      · simp at z1
    · rename_i t c0 t' cs heq
      injection heq with heq
      subst heq
      refine ⟨_,ht,?_⟩
      rcases hbb with ⟨k1,r1,k2,z1,z2⟩ | ⟨t,cs,cs',z1,z2⟩
      · simp at z2
      · injection z2 with z3 z4;subst z1;exact z3.symm
    · rename_i heq;simp at heq
    · exact ht.elim
  · exact ⟨b,by rw [hkeep id (fun j hj e=>hex ⟨j,hj,e⟩)];exact hb,S4.refl hhand.dead⟩
 have hsame:Same st.nx st.hp hp':=⟨hsame1,hsame2⟩
 have h1:=h.onto hh (Nat.le_add_right _ _) hg2 hsame
 have hroM:∀ (i:Nat) b,bs.all isRo=true→bs[i]? = some b→¬ b.mut:=by
  intro i b hall hb hm
  have:=List.all_eq_true.1 hall b (List.mem_of_getElem? hb)
  cases b with
  | rows k r=>cases k with
    | zero=>exact hm
    | succ k=>simp [isRo] at this
  | box _ _=>simp [isRo] at this
  | dead=>exact hm
 have htch:Tch g (A9l bs src) w w':=by
  refine ⟨hres.frame.os,hres.frame.tape,hres.frame.output,hres.frame.size,fun k hk hno=>hres.frame.block k hk ?_⟩
  rintro ⟨i,ba,hi,hma,hna⟩
  unfold A9l at hno
  cases hall:bs.all isRo with
  | true=>exact hroM i ba hall hi hma
  | false=>
    rw [hall] at hno
    obtain ⟨x,b0,ba',x1,x2,x3,x4,x5,x6⟩:=hsrc i (by have:=L4 hi;omega)
    rw [hi] at x3;injection x3 with x3;subst x3
    refine hno x (List.mem_of_getElem? x1) ?_
    have hh0:=x4.2.2.1 k hna
    have hm0:=(x4.2.2.2.1 hma).1
    cases b0 with
    | rows kk r=>cases kk with
      | zero=>exact hm0.elim
      | succ kk=>exact hh0
    | box _ _=>exact hh0
    | dead=>exact hm0.elim
 have hold:∀ id,id<st.nx→id ∉ A9l bs src→get hp' id=get st.hp id:=by
  intro id hid hnot
  by_cases hex:∃ i,i<out.hp.length∧id=back src st.nx i
  · obtain ⟨i,hi,rfl⟩:=hex
    have q:i<src.length:=by
     rcases Nat.lt_or_ge i src.length with q | q
     · exact q
     · rw [A2b q] at hid;omega
    obtain ⟨x,b0,ba,x1,x2,x3,x4,x5,x6⟩:=hsrc i q
    have ht:=htaken i _ (List.getElem?_eq_getElem hi)
    unfold A9l at hnot
    cases hall:bs.all isRo with
    | false=>
      rw [hall,x6] at hnot
      exact absurd (List.mem_of_getElem? x1) hnot
    | true=>
      have hro:∃ r,ba = .rows 0 r:=by
       have:=List.all_eq_true.1 hall ba (List.mem_of_getElem? x3)
       cases ba with
       | rows k r=>cases k with
         | zero=>exact ⟨r,rfl⟩
         | succ k=>simp [isRo] at this
       | box _ _=>simp [isRo] at this
       | dead=>simp [isRo] at this
      obtain ⟨r,rfl⟩:=hro
      rw [x3] at ht
      cases hbo:out.hp[i] with
      | rows k' r'=>
        rw [hbo] at ht
        cases k' with
        | zero=>exact ht
        | succ _=>simp [A4g] at ht
      | box _ _=>rw [hbo] at ht;simp [A4g] at ht
      | dead=>rw [hbo] at ht;simp [A4g] at ht
  · exact hkeep id (fun j hj e=>hex ⟨j,hj,e⟩)
 have hst:st'.hp=hp'∧st'.nx=st.nx+(out.hp.length-src.length)∧st'.nt=st.nt:=by
  cases d with
  | none=>simp only [St.put,Option.some.injEq] at hab;subst hab;exact ⟨rfl,rfl,rfl⟩
  | some d=>
    simp only [St.put] at hab
    cases hb:Nat.blt d st.nt with
    | false=>rw [hb] at hab;simp at hab
    | true=>rw [hb] at hab;simp only [cond_true,Option.some.injEq] at hab;subst hab;exact ⟨rfl,rfl,rfl⟩
 refine ⟨g2,h1.put hab (fun _=>?_) ?_ ?_,hg2,htch,fun id h1 h2=>by rw [hst.1];exact hold id h1 h2,by rw [hst.2.1];omega,hst.2.2⟩
 · rw [hres.val]
   have key:∀ l:List W,(∀ y∈l,∀ id∈idsW y,id<out.hp.length)→resC g' l=H7 g2 (resV src st.nx l):=by
    intro l hl
    match l,hl with
    | [],_=>rfl
    | [y],hl=>simp only [resC,resV,H7];exact ((hcW y (hl y (by simp))).1).symm
    | y::y2::ys,hl=>
      simp only [resC,resV,H7,List.map_map]
      congr 2
      exact List.map_congr_left fun z hz=>((hcW z (hl z hz)).1).symm
   exact key out.res hres.ids
 · unfold resV
   split
   · rename_i y hy
     exact (hcW y (fun id hid=>hres.ids y (by rw [hy];simp) id hid)).2
   · rename_i ys hys
     intro id hid
     simp only [idsV] at hid
     obtain ⟨y1,hy1,hq⟩:=List.mem_flatMap.1 hid
     obtain ⟨y,hy,rfl⟩:=List.mem_map.1 hy1
     exact (hcW y (fun id hid=>hres.ids y hy id hid)).2 id hq
 · unfold resV;split<;>trivial
end
end Go.Proofs.YtmfgajbkcnlkcaaGreat.AI
namespace Go.Proofs.YtmfgajbkcnlkcaaGreat.AI
set_option linter.all false
open Go Go.RowKit
section
variable {R:Type} [RowT R] {P:Program} [RowL P R] {w0:World} {L:Nat→Prop} {g0:Nat→Value} {hp0:List (Blk R)} {st st':St R} {g g':Nat→Value} {a:Act} {w w':World}
theorem C5q:∀ {l:List Nat} {n i j:Nat},idx l n i=some j→i≤j∧l[j-i]? = some n
 | [],n,i,j,h=>by simp [idx] at h
 | x::l,n,i,j,h=>by
   simp only [idx] at h
   cases hb:Nat.beq x n with
   | true=>
     rw [hb] at h
     simp only [cond_true,Option.some.injEq] at h
     subst h
     exact ⟨Nat.le_refl _,by simp [O3 hb]⟩
   | false=>
     rw [hb] at h
     simp only [cond_false] at h
     obtain ⟨h1,h2⟩:=C5q h
     refine ⟨by omega,?_⟩
     rw [show j-i=(j-(i+1))+1 by omega,List.getElem?_cons_succ];exact h2
theorem idx0 {l:List Nat} {n j:Nat} (h:idx l n 0=some j):l[j]? = some n:=(C5q h).2
theorem C5b {l:List Nat} {c c':C} (h:toC l c=some c'):conc (seen g l) c'=conc g c∧∀ id∈idsC c',id<l.length:=by
 cases c with
 | rw id=>
   simp only [toC] at h
   cases hi:idx l id 0 with
   | none=>rw [hi] at h;simp at h
   | some j=>
     rw [hi] at h
     simp only [Option.map_some,Option.some.injEq] at h
     subst h
     have:=idx0 hi
     exact ⟨by simp [conc,seen,this],by simpa [idsC] using L4 this⟩
 | _=>simp only [toC,fixC,Option.some.injEq] at h;subst h;exact ⟨rfl,by simp [idsC]⟩
theorem B3k {l:List Nat}:∀ {cs cs':List C},toCs l cs=some cs'→cs'.map (conc (seen g l))=cs.map (conc g)∧∀ id∈cs'.flatMap idsC,id<l.length
 | [],cs',h=>by simp only [toCs,Option.some.injEq] at h;subst h;simp
 | c::cs,cs',h=>by
   simp only [toCs] at h
   split at h
   · rename_i c1 cs1 h1 h2
     simp only [Option.some.injEq] at h;subst h
     obtain ⟨e1,e2⟩:=C5b (g:=g) h1
     obtain ⟨f1,f2⟩:=B3k h2
     refine ⟨by rw [List.map_cons,List.map_cons,e1,f1],fun id hid=>?_⟩
     simp only [List.flatMap_cons,List.mem_append] at hid
     rcases hid with q | q
     · exact e2 id q
     · exact f2 id q
   · simp at h
theorem C5a {l:List Nat} {y y':W} (h:toW l y=some y'):O4 (seen g l) y'=O4 g y∧∀ id∈idsW y',id<l.length:=by
 cases y with
 | c x=>
   simp only [toW] at h
   cases hx:toC l x with
   | none=>rw [hx] at h;simp at h
   | some x'=>rw [hx] at h;simp only [Option.map_some,Option.some.injEq] at h;subst h;exact C5b hx
 | ag xs=>
   simp only [toW] at h
   cases hx:toCs l xs with
   | none=>rw [hx] at h;simp at h
   | some x'=>
     rw [hx] at h;simp only [Option.map_some,Option.some.injEq] at h;subst h
     obtain ⟨e1,e2⟩:=B3k (g:=g) hx
     exact ⟨by simp only [O4,e1],e2⟩
theorem B7f {l:List Nat} {v v':V} (h:toV l v=some v'):(v' = .no∨(v≠.no∧H7 (seen g l) v'=H7 g v))∧(∀ id∈idsV v',id<l.length)∧∀ hp:List (Nat×Blk R),EpOK P hp v':=by
 cases v with
 | w y=>
   simp only [toV] at h
   cases hx:toW l y with
   | none=>rw [hx] at h;simp at h
   | some x'=>
     rw [hx] at h;simp only [Option.map_some,Option.some.injEq] at h;subst h
     obtain ⟨e1,e2⟩:=C5a (g:=g) hx
     exact ⟨.inr ⟨by simp,e1⟩,e2,fun _=>trivial⟩
 | pt id off=>
   simp only [toV] at h
   cases hx:idx l id 0 with
   | none=>rw [hx] at h;simp at h
   | some j=>
     rw [hx] at h;simp only [Option.map_some,Option.some.injEq] at h;subst h
     have:=idx0 hx
     exact ⟨.inr ⟨by simp,by simp [H7,seen,this]⟩,by simpa [idsV] using L4 this,fun _=>trivial⟩
 | no=>simp only [toV,Option.some.injEq] at h;subst h;exact ⟨.inl rfl,by simp [idsV],fun _=>trivial⟩
 | _=>simp [toV] at h
theorem A8h {l:List Nat}:∀ {ts:List Nat} {tm:List (Nat×V)},toTm l st ts=some tm→∀ t v,get tm t=some v→toV l (st.v t)=some v
 | [],tm,h,t,v,hv=>by simp only [toTm,Option.some.injEq] at h;subst h;simp [get] at hv
 | t0::ts,tm,h,t,v,hv=>by
   simp only [toTm] at h
   split at h
   · rename_i v1 tm1 h1 h2
     simp only [Option.some.injEq] at h;subst h
     rw [O5] at hv
     split at hv
     · rename_i e;subst e;simp only [Option.some.injEq] at hv;subst hv;exact h1
     · exact A8h h2 t v hv
   · simp at h
def Told (l:List Nat):Blk R→Blk R→Prop
 | .rows k r,.rows k' r'=>k=k'∧r=r'
 | .box t cs,.box t' cs'=>t=t'∧toCs l cs=some cs'
 | _,_=>False
theorem A8i {l0:List Nat}:∀ {l:List Nat} {n:Nat} {hp:List (Nat×Blk R)},toHp l0 st l n=some hp→
 (∀ i b,get hp i=some b→n≤i∧∃ id b0,l[i-n]? = some id∧get st.hp id=some b0∧Told l0 b0 b)∧(∀ (k:Nat) id,l[k]? = some id→∃ b b0,get hp (n+k)=some b∧get st.hp id=some b0∧Told l0 b0 b)∧(A4i hp).length=l.length∧(∀ (k:Nat),(A4i hp)[k]? = get hp (n+k))
 | [],n,hp,h=>by simp only [toHp,Option.some.injEq] at h;subst h;simp [get,A4i]
 | id::l,n,hp,h=>by
   simp only [toHp] at h
   split at h
   · rename_i b0 hb0
     split at h
     · rename_i b' hp1 h1 h2
       simp only [Option.some.injEq] at h;subst h
       have htold:Told l0 b0 b':=by
        cases b0 with
        | rows k r=>simp only [C3j,Option.some.injEq] at h1;subst h1;exact ⟨rfl,rfl⟩
        | box t cs=>
          simp only [C3j] at h1
          cases hx:toCs l0 cs with
          | none=>rw [hx] at h1;simp at h1
          | some c=>rw [hx] at h1;simp only [Option.map_some,Option.some.injEq] at h1;subst h1;exact ⟨rfl,hx⟩
        | dead=>simp [C3j] at h1
       obtain ⟨e1,e2,e3,e4⟩:=A8i h2
       refine ⟨fun i b hb=>?_,fun k x hx=>?_,by simp [A4i,e3],fun k=>?_⟩
       · rw [O5] at hb
         split at hb
         · rename_i e;subst e;simp only [Option.some.injEq] at hb;subst hb
           exact ⟨Nat.le_refl _,id,b0,by simp,hb0,htold⟩
         · obtain ⟨f1,id',b1,f2,f3,f4⟩:=e1 i b hb
           exact ⟨by omega,id',b1,by rw [show i-n=(i-(n+1))+1 by omega,List.getElem?_cons_succ];exact f2,f3,f4⟩
       · cases k with
         | zero=>simp only [List.getElem?_cons_zero,Option.some.injEq] at hx;subst hx;exact ⟨b',b0,by rw [O5,if_pos (Nat.add_zero n).symm],hb0,htold⟩
         | succ k=>
           obtain ⟨b,b1,f1,f2,f3⟩:=e2 k x (by simpa using hx)
           exact ⟨b,b1,by rw [O5,if_neg (by omega),show n+(k+1)=n+1+k by omega];exact f1,f2,f3⟩
       · cases k with
         | zero=>rw [O5];simp [A4i]
         | succ k=>rw [O5,if_neg (by omega),show n+(k+1)=n+1+k by omega,← e4 k];simp [A4i]
     · simp at h
   · simp at h
theorem B0w:∀ {l:List Nat} {i n:Nat},B0x l i n=true→∀ j,j<n→l[j]? = some (i+j)
 | _,_,0,_,j,hj=>by omega
 | [],_,n+1,h,_,_=>by simp [B0x] at h
 | x::l,i,n+1,h,j,hj=>by
   simp only [B0x,Bool.and_eq_true] at h
   cases j with
   | zero=>simp [O3 h.1]
   | succ j=>rw [List.getElem?_cons_succ,B0w h.2 j (by omega)];congr 1;omega
theorem B5b {l:List Nat} {na:Nat} (h:named l na=true):l.Nodup∧∀ j,j<na→l[j]? = some j:=by
 simp only [named,Bool.and_eq_true] at h
 refine ⟨A8u h.1,fun j hj=>by simpa using B0w h.2 j hj⟩
theorem Told.ok {l:List Nat} {i id base:Nat} {b0 b:Blk R} (h:Told l b0 b) (hi:l[i]? = some id) (hb:S3 P g w base id b0):S3 P (seen g l) w base i b∧(∀ n,HasB (seen g l) i n b↔HasB g id n b0)∧(b.mut↔b0.mut)∧(∀ j∈idsB b,j<l.length)∧S4 b0 b:=by
 have hg:seen g l i=g id:=by simp [seen,hi]
 cases b0 with
 | rows k r=>
   cases b with
   | rows k' r'=>
     obtain ⟨rfl,rfl⟩:=h
     refine ⟨?_,fun n=>?_,?_,by simp [idsB],rfl,rfl⟩
     · cases k<;>simpa only [S3,hg] using hb
     · cases k<;>simp only [HasB,hg]
     · cases k<;>exact Iff.rfl
   | box _ _=>exact h.elim
   | dead=>exact h.elim
 | box t cs=>
   cases b with
   | box t' cs'=>
     obtain ⟨rfl,hc⟩:=h
     obtain ⟨e1,e2⟩:=B3k (g:=g) hc
     obtain ⟨bb,q1,q2,q3⟩:=hb
     refine ⟨⟨bb,hg.trans q1,by rw [e1];exact q2,fun c hc'=>?_⟩,fun n=>by simp only [HasB,hg],Iff.rfl,by simpa [idsB] using e2,rfl⟩
     have:conc (seen g l) c∈cs.map (conc g):=by rw [← e1];exact List.mem_map.2 ⟨c,hc',rfl⟩
     obtain ⟨c1,hc1,e⟩:=List.mem_map.1 this
     rw [← e];exact q3 c1 hc1
   | rows _ _=>exact h.elim
   | dead=>exact h.elim
 | dead=>cases b<;>exact h.elim
theorem B0c (h:HOK P w0 L st.nx st.hp g w) {l:List Nat} {hp:List (Nat×Blk R)} (hl:l.Nodup) (hh:toHp l st l 0=some hp):HOK P w0 L l.length hp (seen g l) w:=by
 obtain ⟨e1,e2,_,_⟩:=A8i hh
 have fact:∀ i b,get hp i=some b→∃ id b0,l[i]? = some id∧get st.hp id=some b0∧Told l b0 b:=fun i b hb=>by
  obtain ⟨_,id,b0,f1,f2,f3⟩:=e1 i b hb;exact ⟨id,b0,by simpa using f1,f2,f3⟩
 refine ⟨fun i b hb=>?_,fun i b hb=>?_,fun i b hb=>?_,fun i b i' b' n hb hb' hne hm hn hn'=>?_,fun i b n hb hm hn=>?_,fun i hi=>?_,h.frame⟩
 · obtain ⟨id,b0,f1,f2,f3⟩:=fact i b hb
   exact (f3.ok f1 (h.blk id b0 f2)).2.2.2.1
 · obtain ⟨id,b0,f1,f2,f3⟩:=fact i b hb
   exact L4 f1
 · obtain ⟨id,b0,f1,f2,f3⟩:=fact i b hb
   exact (f3.ok f1 (h.blk id b0 f2)).1
 · obtain ⟨id,b0,f1,f2,f3⟩:=fact i b hb
   obtain ⟨id',b0',k1,k2,k3⟩:=fact i' b' hb'
   have t1:=f3.ok f1 (h.blk id b0 f2)
   have t2:=k3.ok k1 (h.blk id' b0' k2)
   exact h.sep id b0 id' b0' n f2 k2 (fun e=>hne ((List.getElem?_inj (L4 f1) hl).1 (by rw [f1,k1,e]))) (t1.2.2.1.1 hm) ((t1.2.1 n).1 hn) ((t2.2.1 n).1 hn')
 · obtain ⟨id,b0,f1,f2,f3⟩:=fact i b hb
   have t1:=f3.ok f1 (h.blk id b0 f2)
   exact h.mutL id b0 n f2 (t1.2.2.1.1 hm) ((t1.2.1 n).1 hn)
 · obtain ⟨b,b0,f1,f2,f3⟩:=e2 i _ (List.getElem?_eq_getElem hi)
   have:=h.one _ (h.idH _ _ f2)
   simpa [seen,List.getElem?_eq_getElem hi] using this
theorem C4v (h:Inv P w0 L g0 hp0 st g a w) {live:List Nat} (hc:C7y live st=some st'):∃ g',Inv P w0 L g0 hp0 st' g' a w:=by
 unfold C7y at hc
 dsimp only at hc
 generalize List.foldl (fun l id=>A6r l (C0m st id)) _ _=l at hc
 cases hn:named l st.na with
 | false=>rw [hn] at hc;simp at hc
 | true=>
   rw [hn] at hc
   simp only [cond_true] at hc
   obtain ⟨hnd,hfst⟩:=B5b hn
   split at hc
   · rename_i tm hp h1 h2
     simp only [Option.some.injEq] at hc;subst hc
     have hh:=B0c h.heap hnd h2
     obtain ⟨e1,e2,_,_⟩:=A8i h2
     refine ⟨seen g l,h.defers,h.size,fun t v hv hno=>?_,fun t v hv=>?_,fun t v hv=>?_,fun i b0 hb0=>?_,fun id hid=>?_,?_,h.hpna,hh⟩
     · have ht:=A8h h1 t v hv
       obtain ⟨k1,k2,k3⟩:=B7f (P:=P) (R:=R) (g:=g) ht
       rcases k1 with k1 | ⟨k0,k1⟩
       · exact absurd k1 hno
       · rw [k1]
         unfold St.v at k0 ⊢
         cases hg:get st.tm t with
         | none=>rw [hg] at k0;exact absurd rfl k0
         | some u=>rw [hg] at k0;exact h.tm t u hg k0
     · exact (B7f (P:=P) (R:=R) (g:=g) (A8h h1 t v hv)).2.1
     · exact (B7f (P:=P) (R:=R) (g:=g) (A8h h1 t v hv)).2.2 _
     · obtain ⟨b,f1,f2,f3⟩:=h.keep i b0 hb0
       have hi:i<st.na:=by rw [← h.hpna];exact L4 hb0
       obtain ⟨b',b1,k1,k2,k3⟩:=e2 i i (hfst i hi)
       rw [f1] at k2;injection k2 with k2;subst k2
       have hs:=(k3.ok (hfst i hi) (h.heap.blk i b f1)).2.2.2.2
       exact ⟨b',by simpa using k1,f2.trans hs,f3.same hs⟩
     · have:=hfst id hid
       simp only [seen,this,Option.getD_some];exact h.args id hid
     · rcases Nat.eq_zero_or_pos st.na with q | q
       · show st.na≤l.length;omega
       · have:=L4 (hfst (st.na-1) (by omega));show st.na≤l.length;omega
   · simp at hc
end
end Go.Proofs.YtmfgajbkcnlkcaaGreat.AI
namespace Go.Proofs.YtmfgajbkcnlkcaaGreat.AI
set_option linter.all false
open Go Go.RowKit
section
variable {R:Type} [RowT R] {P:Program} [RowL P R] {w0:World} {L:Nat→Prop} {g0:Nat→Value} {hp0:List (Blk R)} {st st':St R} {g g':Nat→Value} {a:Act} {w w':World} {o:Oper}
theorem A9z {t:TypeId} {fs:Array Field} (hu:P.underlying t=some (.struct fs)) {ad:Addr} {cs:List Value} (hl:P.cellsOf t=cs.length) (h:∀ j v,cs[j]? = some v→w.cell? (ad.add j)=some v) :
 (loadVar t ad).run P w = .ok (.agg cs.toArray) w:=by
 obtain ⟨i,hi⟩:=A6g hu
 simp [loadVar,A5u hu,A2t hi,hl,run_loadCells_list w ad cs h]
theorem A3r (h:Inv P w0 L g0 hp0 st g a w) (f:ResultVar→Go.Sem Value) (hf:∀ u,f (.tmp u)=pure (a.tmps.getD u undef)) (hc:∀ x t,f (.cell x t)=(do loadVar t (← asAddr (a.tmps.getD x undef)))) :
 ∀ (rs:List ResultVar) (ys:List W),A0p P st rs=some ys→(rs.mapM f).run P w = .ok (ys.map (O4 g)) w
 | [],ys,hr=>by simp only [A0p,Option.some.injEq] at hr;subst hr;simp
 | r::rs,ys,hr=>by
   simp only [A0p] at hr
   split at hr
   · rename_i y ys' h1 h2
     simp only [Option.some.injEq] at hr;subst hr
     have ih:=A3r h f hf hc rs ys' h2
     have tmv:∀ t v,st.v t=v→v≠.no→a.tmps.getD t undef=H7 g v:=fun t v hv hno=>by
      have:=h.ev (x:=.tmp t) (by simp only [AI.ev];rw [hv];exact hno)
      simp only [AI.ev,Act.eval] at this
      rw [hv] at this;exact this.1
     have one:(f r).run P w = .ok (O4 g y) w:=by
      unfold B4p at h1
      split at h1
      · rename_i t
        split at h1
        · rename_i y' hy
          simp only [Option.some.injEq] at h1;subst h1
          rw [hf,tmv t _ hy (by simp)];rfl
        · simp at h1
      · rename_i t ty
        split at h1
        · rename_i id hv
          split at h1
          · rename_i t' cs hb
            cases hcc:(V2 P ty&&Nat.beq ty t'&&Nat.beq (P.cellsOf ty) cs.length) with
            | false=>rw [hcc] at h1;simp at h1
            | true=>
              rw [hcc] at h1
              simp only [cond_true,Option.some.injEq] at h1;subst h1
              simp only [Bool.and_eq_true] at hcc
              obtain ⟨fs,hu⟩:=A0v hcc.1.1
              obtain ⟨b,hg,hh,_⟩:=h.heap.blk _ _ hb
              rw [hc,tmv t _ hv (by simp)]
              simp only [H7,hg]
              have:=A9z (P:=P) (w:=w) hu (ad:=⟨b,0,none⟩) (cs:=cs.map (conc g)) (by rw [O3 hcc.2];simp) (fun j v hj=>by rw [add_lit,cell_of_row w b _ _ _ _ hh];simpa using hj)
              simp [asAddr,this,O4]
          · simp at h1
        · simp at h1
     rw [List.mapM_cons]
     simp [one,ih]
   · simp at hr
theorem B6d (h:Inv P w0 L g0 hp0 st g a w) {fn:Func} {ys:List W} (hr:A0p P st fn.results.toList=some ys):(results fn a.tmps).run P w = .ok (resC g ys) w:=by
 unfold results
 rw [Array.mapM_eq_mapM_toList]
 simp only [Sem.run_bind,Sem.run_map]
 rw [A3r h _ (fun _=>rfl) (fun _ _=>rfl) _ ys hr]
 match ys with
 | []=>simp [resC]
 | [y]=>simp [resC]
 | y::y2::ys=>simp [resC]
theorem B7e {l:List Nat}:∀ {ys ws:List W},toWs l ys=some ws→ws.map (O4 (seen g l))=ys.map (O4 g)∧∀ y∈ws,∀ id∈idsW y,id<l.length
 | [],ws,h=>by simp only [toWs,Option.some.injEq] at h;subst h;simp
 | y::ys,ws,h=>by
   simp only [toWs] at h
   split at h
   · rename_i y1 ws1 h1 h2
     simp only [Option.some.injEq] at h;subst h
     obtain ⟨e1,e2⟩:=C5a (g:=g) h1
     obtain ⟨f1,f2⟩:=B7e h2
     refine ⟨?_,fun z hz=>?_⟩
     · rw [List.map_cons,List.map_cons,e1,f1]
     · rcases List.mem_cons.1 hz with rfl | hz
       · exact e2
       · exact f2 z hz
   · simp at h
theorem A7k {G G':Nat→Value} {ys zs:List W} (h:ys.map (O4 G)=zs.map (O4 G')):resC G ys=resC G' zs:=by
 match ys,zs,h with
 | [],[],_=>rfl
 | [y],[z],h=>simpa [resC] using h
 | y::y2::ys,z::z2::zs,h=>simp only [resC,h]
 | [],_::_,h=>simp at h
 | _::_,[],h=>simp at h
 | [_],_::_::_,h=>simp at h
 | _::_::_,[_],h=>simp at h
theorem B1m {na:Nat}:∀ {hp:List (Nat×Blk R)},B1n hp na=true→∀ i b,get hp i=some b→na≤i→∃ r,b = .rows 2 r
 | [],_,i,b,h,_=>by simp [get] at h
 | (j,c)::hp,ha,i,b,h,hi=>by
   simp only [B1n,Bool.and_eq_true,Bool.or_eq_true] at ha
   rw [O5] at h
   split at h
   · rename_i e;subst e;simp only [Option.some.injEq] at h;subst h
     rcases ha.1 with q | q
     · have:j+1≤na:=by simpa [Nat.blt] using q
       omega
     · split at q
       · rename_i r;exact ⟨r,rfl⟩
       · simp at q
   · exact B1m ha.2 i b h hi
theorem C0c (h:Inv P w0 (fun n=>∃ (i:Nat) (b:Blk R),hp0[i]? = some b∧b.mut∧HasB g0 i n b) g0 hp0 st g a w) {fn:Func} {out:Out R} (hf:B5p P fn.results.toList st=some out) :
 ∃ c g',(results fn a.tmps).run P w = .ok c w∧B6x P w0 g0 hp0 out c w g':=by
 unfold B5p at hf
 split at hf
 case h_2=>simp at hf
 rename_i ys hys
 dsimp only at hf
 generalize List.foldl (fun l y=>A6r l (idsW y)) _ ys=l at hf
 split at hf
 case h_2=>simp at hf
 rename_i ws hp h1 h2
 cases hn:(named l st.na&&B1n hp st.na) with
 | false=>rw [hn] at hf;simp at hf
 | true=>
   rw [hn] at hf
   simp only [cond_true,Option.some.injEq] at hf;subst hf
   simp only [Bool.and_eq_true] at hn
   obtain ⟨hnd,hfst⟩:=B5b hn.1
   have hh:=B0c h.heap hnd h2
   obtain ⟨e1,e2,e3,e4⟩:=A8i h2
   obtain ⟨k1,k2⟩:=B7e (g:=g) h1
   have hget:∀ i:Nat,(A4i hp)[i]? = get hp i:=fun i=>by simpa using e4 i
   have hnal:st.na≤l.length:=by
    rcases Nat.eq_zero_or_pos st.na with q | q
    · omega
    · have:=L4 (hfst (st.na-1) (by omega));omega
   have hs:∀ i,i<hp0.length→seen g l i=g0 i:=fun i hi=>by
    rw [h.hpna] at hi
    simp only [seen,hfst i hi,Option.getD_some];exact h.args i hi
   refine ⟨resC g ys,seen g l,B6d h hys,A7k k1.symm,hs,?_,?_,?_,?_,?_,?_,?_,h.heap.frame⟩
   · intro y hy id hid
     show id<(A4i hp).length
     rw [e3];exact k2 y hy id hid
   · intro i b hb j hj
     show j<(A4i hp).length
     rw [e3];exact hh.idB i b (by rw [← hget];exact hb) j hj
   · intro i b hb;exact hh.blk i b (by rw [← hget];exact hb)
   · intro i b i' b' n hb hb' hne hm hn'
     exact hh.sep i b i' b' n (by rw [← hget];exact hb) (by rw [← hget];exact hb') hne hm hn'
   · intro i b hb
     obtain ⟨b1,f1,f2,f3⟩:=h.keep i b hb
     have hi:i<st.na:=by rw [← h.hpna];exact L4 hb
     obtain ⟨b',b2,m1,m2,m3⟩:=e2 i i (hfst i hi)
     rw [f1] at m2;injection m2 with m2;subst m2
     refine ⟨b',by show (A4i hp)[i]? = _;rw [hget];simpa using m1,f2.trans (m3.ok (hfst i hi) (h.heap.blk i b1 f1)).2.2.2.2⟩
   · intro i b hi hb
     rw [h.hpna] at hi
     have hb':get hp i=some b:=by rw [← hget];exact hb
     obtain ⟨r,rfl⟩:=B1m hn.2 i b hb' hi
     refine ⟨⟨r,rfl⟩,fun n hn'=>?_⟩
     have hbk:=hh.blk i _ hb'
     have hn2:T9 (seen g l i)=some n:=hn'
     rcases hbk.2 with ⟨q,_⟩ | ⟨b,cap,cur,q,q2,_⟩
     · rw [q] at hn2;simp [T9] at hn2
     · rw [q] at hn2;simp only [T9,Option.some.injEq] at hn2;rw [← hn2];simpa using q2
   · intro i hi
     exact hh.one i (by have:i<(A4i hp).length:=hi;rwa [e3] at this)
theorem B4t {d:Option Nat} {v:V} (h:st.put d v=some st'):st'.hp=st.hp∧st'.nx=st.nx∧st'.nt=st.nt∧st'.na=st.na:=by
 cases d with
 | none=>simp only [St.put,Option.some.injEq] at h;subst h;exact ⟨rfl,rfl,rfl,rfl⟩
 | some d=>
   simp only [St.put] at h
   cases hb:Nat.blt d st.nt with
   | false=>rw [hb] at h;simp at h
   | true=>rw [hb] at h;simp only [cond_true,Option.some.injEq] at h;subst h;exact ⟨rfl,rfl,rfl,rfl⟩
theorem B4k {Z:Type} {z:Z} {x:Option Z}:∀ {ts:List Tst},C3k ts x=some z→(∀ t∈ts,t.p)∧x=some z
 | [],h=>⟨by simp,h⟩
 | t::ts,h=>by
   simp only [C3k] at h
   by_cases ht:t.p
   · rw [@if_pos _ t.i ht] at h
     obtain ⟨h1,h2⟩:=B4k h
     exact ⟨fun u hu=>by rcases List.mem_cons.1 hu with rfl | hu;exact ht;exact h1 u hu,h2⟩
   · rw [@if_neg _ t.i ht] at h;simp at h
theorem C0d:∀ {O:List (Cal R)} {f:FuncId} {c:Cal R},find O f=some c→c∈O∧c.f=f
 | [],f,c,h=>by simp [find] at h
 | o::O,f,c,h=>by
   simp only [find] at h
   cases hb:Nat.beq o.f f with
   | true=>rw [hb] at h;simp only [cond_true,Option.some.injEq] at h;subst h;exact ⟨List.mem_cons_self ..,O3 hb⟩
   | false=>rw [hb] at h;obtain ⟨h1,h2⟩:=C0d (by simpa using h);exact ⟨List.mem_cons_of_mem _ h1,h2⟩
def W5 (wr:List Nat) (st st':St R):Prop:=(∀ id,id<st.nx→id ∉ wr→get st'.hp id=get st.hp id)∧st.nx≤st'.nx
def Does (P:Program) (w0:World) (L:Nat→Prop) (g0:Nat→Value) (hp0:List (Blk R)) (o:Oper) (wr:List Nat) (st st':St R):Prop:=
 ∀ (g:Nat→Value) (a:Act) (w:World),Inv P w0 L g0 hp0 st g a w→W5 wr st st'∧(∀ (K:Act→World→Prop) (Q:Exit→Act→World→Prop),(∀ g' a' w',Inv P w0 L g0 hp0 st' g' a' w'→(∀ i,i<st.nx→g' i=g i)→Tch g wr w w'→K a' w')→o.wp P a w K Q) ∧
  (A0j o.op=true→∃ v,Inv P w0 L g0 hp0 st' g (a.put o.dst v) w∧∀ w1,LdOK P st g w0.heap.size o w1→(execOp a.eval o).run P w1 = .ok (.value v) w1)
theorem W5.put {wr:List Nat} {d:Option Nat} {v:V} (h:st.put d v=some st'):W5 wr st st':=by
 obtain ⟨h1,h2,_⟩:=B4t h;exact ⟨fun id _ _=>by rw [h1],by omega⟩
theorem W5.rows {wr:List Nat} {d:Option Nat} {r:R} (h:AI.newRows st d r=some st'):W5 wr st st':=by
 obtain ⟨h1,h2,_⟩:=B4t h
 exact ⟨fun id hid _=>by rw [h1];show get ((st.nx,_)::st.hp) id=_;rw [O5,if_neg (by omega)],by rw [h2];exact Nat.le_succ _⟩
theorem W5.box {wr:List Nat} {d:Option Nat} {t:TypeId} {cs:List C} (h:AI.newBox st d t cs=some st'):W5 wr st st':=by
 obtain ⟨h1,h2,_⟩:=B4t h
 exact ⟨fun id hid _=>by rw [h1];show get ((st.nx,_)::st.hp) id=_;rw [O5,if_neg (by omega)],by rw [h2];exact Nat.le_succ _⟩
theorem W5.trans {wr:List Nat} {s0 s1 s2:St R} (a:W5 wr s0 s1) (b:W5 wr s1 s2):W5 wr s0 s2:=
 ⟨fun id h1 h2=>(b.1 id (Nat.lt_of_lt_of_le h1 a.2) h2).trans (a.1 id h1 h2),Nat.le_trans a.2 b.2⟩
theorem A1r:∀ (vs:List Value) (fs:List Field) (nx nx':Nat) (cs:List C) (es:List (Nat×Blk R)),W6 P nx vs fs=some (nx',cs,es)→nx≤nx'∧∀ (hp:List (Nat×Blk R)) id,id<nx→get (es++hp) id=get hp id
 | [],fs,nx,nx',cs,es,h=>by
   cases fs with
   | cons f fs=>simp [W6] at h
   | nil=>simp only [W6,Option.some.injEq,Prod.mk.injEq] at h;obtain ⟨rfl,rfl,rfl⟩:=h;simp
 | v::vs,fs,nx,nx',cs,es,h=>by
   cases fs with
   | nil=>cases v<;>first | (simp [W6] at h;done) | (rename_i A n c;cases A<;>first | (simp [W6] at h;done) | (cases n<;>first | (simp [W6] at h;done) | (cases c<;>simp [W6] at h)))
   | cons f fs=>
     cases v<;>first | (simp [W6] at h;done) | skip
     case bool b=>
      simp only [W6] at h
      split at h
      · rename_i h1;simp only [Option.some.injEq,Prod.mk.injEq] at h;obtain ⟨rfl,rfl,rfl⟩:=h;exact A1r vs fs _ _ _ _ h1
      · simp at h
     case int k n=>
      simp only [W6] at h
      split at h
      · rename_i h1;simp only [Option.some.injEq,Prod.mk.injEq] at h;obtain ⟨rfl,rfl,rfl⟩:=h;exact A1r vs fs _ _ _ _ h1
      · simp at h
     case slice A n c=>
      cases A with
      | some _=>simp [W6] at h
      | none=>
         cases n with
        | succ _=>simp [W6] at h
        | zero=>cases c with
          | succ _=>simp [W6] at h
          | zero=>
            simp only [W6] at h
            split at h
            · split at h
              · rename_i h1
                simp only [Option.some.injEq,Prod.mk.injEq] at h;obtain ⟨rfl,rfl,rfl⟩:=h
                obtain ⟨h2,h3⟩:=A1r vs fs _ _ _ _ h1
                refine ⟨by omega,fun hp id hid=>?_⟩
                rw [List.append_assoc,h3 _ id (by omega)]
                show get ((nx,_)::hp) id=_
                rw [O5,if_neg (by omega)]
              · simp at h
            · simp at h
theorem A4x {wr:List Nat} {t:TypeId} {cs:List C} (h:A4y P t st=some (st',cs)):W5 wr st st':=by
 unfold A4y at h
 split at h
 · split at h
   · split at h
     · rename_i h1
       simp only [Option.some.injEq,Prod.mk.injEq] at h;obtain ⟨rfl,rfl⟩:=h
       obtain ⟨h2,h3⟩:=A1r _ _ _ _ _ _ h1
       exact ⟨fun id hid _=>h3 _ id hid,h2⟩
     · simp at h
   · simp at h
 · simp at h
theorem W5.turn {wr:List Nat} {id:Nat} {b:Blk R} (h:id∈wr):W5 wr st { st with hp:=(id,b)::st.hp }:=
 ⟨fun i _ hi=>by show get ((id,b)::st.hp) i=_;rw [O5,if_neg (fun (e:id=i)=>hi (by rw [← e];exact h))],Nat.le_refl _⟩
omit [RowL P R] in
theorem W5.mv {wr:List Nat} {x:Operand} {ts:List Tst} (h:mvOf P o st x=some (ts,st')):W5 wr st st':=by
 unfold mvOf at h
 repeat' split at h
 all_goals first
  | (simp at h;done)
  | (simp only [Option.some.injEq,Prod.mk.injEq] at h;obtain ⟨_,rfl⟩:=h;first | exact W5.put (by assumption) | exact W5.rows (by assumption))
theorem W5.app {wr:List Nat} {id:Nat} {r':R} {d:Option Nat} {v:V} (hid:id∈wr) (h:({ st with nx:=st.nx+1,hp:=(st.nx,.rows 2 r')::(id,.dead)::st.hp }:St R).put d v=some st'):W5 wr st st':=by
 refine W5.trans ⟨fun i hi hn=>?_,?_⟩ (W5.put h)
 · show get ((st.nx,_)::(id,_)::st.hp) i=_
   rw [O5,if_neg (by omega),O5,if_neg (fun (e:id=i)=>hn (by rw [← e];exact hid))]
 · exact Nat.le_succ _
theorem B7v {ts:List Tst} (h:pop P o st=some (ts,st')):W5 (A3a st o) st st':=by
 unfold pop at h
 dsimp only at h
 simp only [Bool.cond_eq_ite] at h
 repeat' split at h
 all_goals first
  | (simp at h;done)
  | exact W5.mv h
  | (simp only [Option.some.injEq,Prod.mk.injEq] at h;obtain ⟨_,rfl⟩:=h
     first
     | exact W5.put (by assumption)
     | exact W5.box (by assumption)
     | exact W5.rows (by assumption)
     | exact (A4x (by assumption)).trans (W5.box (by assumption))
     | exact (A4x (by assumption)).trans (W5.put (by assumption))
     | exact W5.turn (by simp_all [A3a,idOf])
     | (refine W5.app ?_ (by assumption);simp_all [A3a,idOf]))
  | skip
end
end Go.Proofs.YtmfgajbkcnlkcaaGreat.AI
namespace Go.Proofs.YtmfgajbkcnlkcaaGreat.AI
set_option linter.all false
open Go Go.RowKit
section
variable {R:Type} [RowT R] {P:Program} [RowL P R] {w0:World} {L:Nat→Prop} {g0:Nat→Value} {hp0:List (Blk R)} {st st':St R} {g g':Nat→Value} {a:Act} {w w':World} {o:Oper}
theorem C0t {x:Nat} {l:List Nat}:l.any (Nat.beq x)=true↔x∈l:=by
 rw [List.any_eq_true]
 exact ⟨fun ⟨y,h1,h2⟩=>by rw [O3 h2];exact h1,fun h=>⟨x,h,Nat.beq_refl x⟩⟩
theorem B7j {l m:List Nat} (h:subset l m=true):∀ x∈l,x∈m:=fun x hx=>C0t.1 (List.all_eq_true.1 h x hx)
theorem B6g (h:B5t o≠none):A0j o.op=false:=by
 unfold B5t at h
 split at h
 · rename_i c hop
   split at h
   · rename_i f hc
     rw [hop];simp only [A0j,hc]
   · exact absurd rfl h
 · exact absurd rfl h
theorem B3p {id k i:Nat} {r r':R} {vs:List Sc} (h:A8k P o st=some (id,k,r,i,vs)) (hs:RowT.set r i vs=some r'):pop P o st=some ([],{ st with hp:=(id,.rows k r')::st.hp }):=by
 unfold A8k at h
 split at h
 · rename_i t a x hop
   split at h
   · rename_i id1 sz1 i1 off1 y hd ha hx
     split at h
     · rename_i k1 r1 hb
       split at h
       · rename_i ys
         split at h
         · rename_i vs1 hv
           cases hc:(V2 P t&&Nat.beq off1 0&&Nat.beq t (RowT.ty r1)) with
           | false=>rw [hc] at h;simp at h
           | true=>
             rw [hc] at h
             simp only [cond_true,Option.some.injEq,Prod.mk.injEq] at h
             obtain ⟨rfl,rfl,rfl,rfl,rfl⟩:=h
             unfold pop
             simp only [hop,hd,ha,hx,hb,hv,hc,hs,cond_true]
         · simp at h
       · rename_i y1
         split at h
         · rename_i v hv
           cases hc:A4r P t with
           | false=>rw [hc] at h;simp at h
           | true=>
             rw [hc] at h
             simp only [cond_true] at h
             split at h
             · rename_i v0 hn
               simp only [Option.some.injEq,Prod.mk.injEq] at h
               obtain ⟨rfl,rfl,rfl,rfl,rfl⟩:=h
               unfold pop
               simp only [hop,hd,ha,hx,hb,hv,hc,hn,hs,cond_true]
             · simp at h
         · simp at h
     · simp at h
   · simp at h
 · simp at h
theorem C0g {O:List (Cal R)} (hO:∀ c∈O,G8 P c) {k:Nat} {lm:Option (List Nat)} {Z:Type} {K:St R→Option Z} {z:Z} (h:eop P O k lm o st K=some z) :
 ∃ st' wr,K st'=some z∧Does P w0 L g0 hp0 o wr st st'∧∀ d,lm=some d→∀ x∈wr,x∈d:=by
 have wi:∀ {l:List Nat},A9w lm l=true→∀ d,lm=some d→∀ x∈l,x∈d:=by
  intro l hw d hd;subst hd;exact B7j hw
 unfold eop at h
 split at h
 · rename_i f xs hcall
   split at h
   · rename_i c hfind
     split at h
     · rename_i vs bs src hpack
       cases hnd:(B3y src&&A9w lm (A9l bs src)) with
       | false=>rw [hnd] at h;simp at h
       | true=>
         rw [hnd] at h
         simp only [cond_true] at h
         simp only [Bool.and_eq_true] at hnd
         obtain ⟨hmem,hcf⟩:=C0d hfind
         obtain ⟨⟨fn,hfn,hname,hbody⟩,hok⟩:=hO c hmem
         obtain ⟨out,h1,hgood⟩:=hok k vs bs Z _ z h
         split at h1
         · rename_i st1 hab
           have hq:=B6g (o:=o) (by rw [hcall];simp)
           refine ⟨st1,A9l bs src,h1,fun g a w hI=>?_,wi hnd.2⟩
           obtain ⟨hargs,hpk⟩:=C8u hI hpack hnd.1
           have hrun:(execOp a.eval o).run P w = .ok (.enter c.f (vs.map (H7 (seen g src))).toArray) w:=by
            unfold B5t at hcall
            split at hcall
            · rename_i cl hop
              split at hcall
              · rename_i f' hcl
                simp only [Option.some.injEq,Prod.mk.injEq] at hcall
                obtain ⟨rfl,rfl⟩:=hcall
                unfold execOp
                rw [hop]
                have hmap:cl.args.map a.eval=(vs.map (H7 (seen g src))).toArray:=by
                 rw [hargs,← Array.toList_map,Array.toArray_toList]
                have hne:¬ fn.name = "runtime.NumGoroutine" := by simpa using hname
                have hbd:¬ fn.body=none:=by intro e;rw [e] at hbody;simp at hbody
                simp only [resolve,hcl,hmap,Act.eval,Deferred.ofValue]
                rw [← hcf]
                simp [invoke,callFunc,program,Sem.run,hfn,hne,hbd]
              · simp at hcall
            · simp at hcall
           refine ⟨?_,fun K' Q hK=>?_,fun hqo=>by rw [hq] at hqo;simp at hqo⟩
           · obtain ⟨e,w',_,⟨cv,g',_,hres⟩,_⟩:=hgood w (seen g src) hpk.args []
             obtain ⟨_,_,_,_,h4,h5,_⟩:=B1i hI hpk hres hab
             exact ⟨h4,h5⟩
           · unfold Oper.wp
             rw [hrun,Oper.upon_enter]
             refine (hgood w (seen g src) hpk.args).mono ?_
             rintro e w' ⟨cv,g',rfl,hres⟩
             obtain ⟨g2,hI2,h2,h3,_⟩:=B1i hI hpk hres hab
             exact hK g2 _ _ hI2 h2 h3
         · simp at h1
     · simp at h
   · simp at h
 · cases hw:A9w lm (A3a st o) with
   | false=>rw [hw] at h;simp at h
   | true=>
     rw [hw] at h
     simp only [cond_true] at h
     have fin:∀ (ts:List Tst) (st1:St R),pop P o st=some (ts,st1)→(∀ t∈ts,t.p)→K st1=some z→∃ st' wr,K st'=some z∧Does P w0 L g0 hp0 o wr st st'∧∀ d,lm=some d→∀ x∈wr,x∈d:=by
      intro ts st1 hp h1 h2
      have hk:=B7v hp
      refine ⟨st1,A3a st o,h2,fun g a w hI=>?_,wi hw⟩
      obtain ⟨g',v,w',hr,hI',hg,ht,hq⟩:=C8t hI hp h1
      refine ⟨hk,fun K' Q hK=>?_,fun hqo=>?_⟩
      · unfold Oper.wp
        rcases hr with hr | ⟨hr,rfl⟩
        · rw [hr];exact hK g' _ _ hI' hg ht
        · rw [hr];exact hK g' _ _ hI' hg ht
      · obtain ⟨rfl,hrun⟩:=hq hqo
        have hrr:=hrun w (S5 hI o)
        have hw':w'=w:=by
         rcases hr with hr | ⟨hr,_⟩
         · rw [hrr] at hr;injection hr with _ e;exact e.symm
         · rw [hrr] at hr;injection hr with e;simp at e
        subst hw'
        exact ⟨v,hI',hrun⟩
     split at h
     · rename_i id k r i vs hr
       obtain ⟨r',e1,e2⟩:=RowL.setK_eq (P:=P) r i vs _ _ z h
       exact fin [] _ (B3p hr e1) (by simp) e2
     · split at h
       · rename_i ts st1 hp
         obtain ⟨h1,h2⟩:=B4k h
         exact fin ts st1 hp h1 h2
       · simp at h
def Bl (P:Program) (w0:World) (L:Nat→Prop) (g0:Nat→Value) (hp0:List (Blk R)) (t:Nat) (b:Bool) (st st':St R):Prop:=
 st'.hp=st.hp∧st'.nx=st.nx∧∀ g a w,Inv P w0 L g0 hp0 st g a w→a.tmps[t]? = some (.bool b)∧Inv P w0 L g0 hp0 st' g a w
theorem A4o {t:Nat} {b:Bool} {v:V} (hv:st.v t=v) (hno:v≠.no) (hc:∀ g,H7 g v = .bool b):Bl P w0 L g0 hp0 t b st (st.know t b):=by
 refine ⟨rfl,rfl,fun g a w h=>?_⟩
 have hg:get st.tm t=some v:=by
  unfold St.v at hv
  cases hq:get st.tm t with
  | none=>rw [hq] at hv;exact absurd hv.symm hno
  | some u=>rw [hq] at hv;simp only [Option.getD_some] at hv;rw [hv]
 have h1:=h.tm t v hg hno
 rw [hc] at h1
 refine ⟨h1,h.defers,h.size,fun t' u hu hn=>?_,fun t' u hu=>?_,fun t' u hu=>?_,h.keep,h.args,h.na,h.hpna,h.heap⟩
 · simp only [St.know] at hu
   rw [O5] at hu
   split at hu
   · rename_i e;subst e;simp only [Option.some.injEq] at hu;subst hu;exact h1
   · exact h.tm t' u hu hn
 · simp only [St.know] at hu
   rw [O5] at hu
   split at hu
   · simp only [Option.some.injEq] at hu;subst hu;simp [idsV,idsW,idsC]
   · exact h.idT t' u hu
 · simp only [St.know] at hu
   rw [O5] at hu
   split at hu
   · simp only [Option.some.injEq] at hu;subst hu;trivial
   · exact h.ep t' u hu
omit [RowL P R] in
theorem B7m {t:Nat} {b:Bool} {v:V} (hv:st.v t=v) (hno:v≠.no) (hc:∀ g,H7 g v = .bool b):Bl P w0 L g0 hp0 t b st st:=by
 refine ⟨rfl,rfl,fun g a w h=>⟨?_,h⟩⟩
 have hg:get st.tm t=some v:=by
  unfold St.v at hv
  cases hq:get st.tm t with
  | none=>rw [hq] at hv;exact absurd hv.symm hno
  | some u=>rw [hq] at hv;simp only [Option.getD_some] at hv;rw [hv]
 rw [h.tm t v hg hno,hc]
theorem B3w {Z:Type} {t:Nat} {F:Bool→St R→Option Z} {z:Z} (h:part st t F=some z):∃ b st',F b st'=some z∧Bl P w0 L g0 hp0 t b st st':=by
 unfold part at h
 split at h
 · rename_i hv;exact ⟨true,st,h,B7m hv (by simp) fun _=>rfl⟩
 · rename_i hv;exact ⟨false,st,h,B7m hv (by simp) fun _=>rfl⟩
 · rename_i p i hv
   by_cases hp:p
   · rw [@if_pos _ i hp] at h;exact ⟨true,_,h,A4o hv (by simp) fun _=>by simp [H7,O4,conc,hp]⟩
   · rw [@if_neg _ i hp] at h;exact ⟨false,_,h,A4o hv (by simp) fun _=>by simp [H7,O4,conc,hp]⟩
 · rename_i p i hv
   by_cases hp:p
   · rw [@if_pos _ i hp] at h;exact ⟨false,_,h,A4o hv (by simp) fun _=>by simp [H7,O4,conc,hp]⟩
   · rw [@if_neg _ i hp] at h;exact ⟨true,_,h,A4o hv (by simp) fun _=>by simp [H7,O4,conc,hp]⟩
 · rename_i b hv
   split at h
   · rename_i hb;exact ⟨true,_,h,A4o hv (by simp) fun _=>by simp [H7,O4,conc,Sc.v,hb]⟩
   · rename_i hb;exact ⟨false,_,h,A4o hv (by simp) fun _=>by simp [H7,O4,conc,Sc.v,hb]⟩
 · simp at h
theorem A4s {Z:Type} {ops:Array Oper} {run pass:St R→Option Z} {z:Z} (h:A6h ops.toList o st run pass=some z) :
 ∃ (b:Bool) (st':St R),(if b then run st' else pass st')=some z∧st'.hp=st.hp∧st'.nx=st.nx ∧
  ∀ g a w,Inv P w0 L g0 hp0 st g a w→Region.wanted o (yielded ops a.tmps)=b∧Inv P w0 L g0 hp0 st' g a w:=by
 unfold A6h at h
 split at h
 · rename_i hg
   exact ⟨true,st,h,rfl,rfl,fun g a w hI=>⟨by simp [Region.wanted,hg],hI⟩⟩
 · rename_i j want hg
   split at h
   · rename_i t ht
     have hy:∀ (a:Act) (b:Bool),a.tmps[t]? = some (.bool b)→Region.wanted o (yielded ops a.tmps)=(b == want):=by
      intro a b hb
      simp only [Region.wanted,hg,yielded]
      rw [A0z,Array.getElem?_toList] at ht
      rw [ht]
      simp only [Option.bind_some,hb]
      cases b<;>cases want<;>rfl
     split at h
     · rename_i hv
       refine ⟨false,st,h,rfl,rfl,fun g a w hI=>⟨?_,hI⟩⟩
       have hgt:get st.tm t=some .un:=by
        unfold St.v at hv
        cases hq:get st.tm t with
        | none=>rw [hq] at hv;simp at hv
        | some u=>rw [hq] at hv;simp only [Option.getD_some] at hv;rw [hv]
       have h1:=hI.tm t _ hgt (by simp)
       simp only [Region.wanted,hg,yielded]
       rw [A0z,Array.getElem?_toList] at ht
       rw [ht]
       simp only [Option.bind_some,h1,H7]
       rfl
     · obtain ⟨b,st',h1,h2,h3,h4⟩:=B3w (P:=P) (w0:=w0) (L:=L) (g0:=g0) (hp0:=hp0) h
       refine ⟨b == want,st',?_,h2,h3,fun g a w hI=>?_⟩
       · cases hb:(b == want) with
         | true=>rw [hb] at h1;simpa using h1
         | false=>rw [hb] at h1;simpa using h1
       · obtain ⟨q1,q2⟩:=h4 g a w hI
         exact ⟨hy a b q1,q2⟩
   · simp at h
theorem A5z {Z:Type} {K:St R→Option Z} {z:Z} (h:B0j o st K=some z):∃ st',K st'=some z∧st'.hp=st.hp∧st'.nx=st.nx∧∀ g a w,Inv P w0 L g0 hp0 st g a w→Inv P w0 L g0 hp0 st' g (a.put o.dst undef) w:=by
 unfold B0j at h
 split at h
 · rename_i s hs
   obtain ⟨h1,h2,_⟩:=B4t hs
   exact ⟨s,h,h1,h2,fun g a w hI=>hI.put hs (fun _=>rfl) (by simp [idsV]) trivial⟩
 · simp at h
theorem B4e {O:List (Cal R)} (hO:∀ c∈O,G8 P c) {k:Nat} {Z:Type} {K:St R→Option Z} {z:Z} {ops:Array Oper}:∀ (l:List Oper) (st:St R),eops P O k ops.toList l st K=some z→
 ∃ st',K st'=some z∧∀ g a w (Q:Exit→Act→World→Prop),Inv P w0 L g0 hp0 st g a w→(∀ g' a' w',Inv P w0 L g0 hp0 st' g' a' w'→Q .normal a' w')→wpList P ops Q l a w
 | [],st,h=>⟨st,h,fun g a w Q hI hK=>hK g a w hI⟩
 | o::l,st,h=>by
   simp only [eops] at h
   obtain ⟨b,st1,h1,_,_,h2⟩:=A4s (P:=P) (w0:=w0) (L:=L) (g0:=g0) (hp0:=hp0) h
   cases b with
   | true=>
     simp only [if_true] at h1
     obtain ⟨st2,wr,h3,h4,_⟩:=C0g (w0:=w0) (L:=L) (g0:=g0) (hp0:=hp0) hO h1
     obtain ⟨st',h5,h6⟩:=B4e hO l st2 h3
     refine ⟨st',h5,fun g a w Q hI hK=>?_⟩
     obtain ⟨q1,q2⟩:=h2 g a w hI
     unfold wpList
     rw [if_pos q1]
     exact .inl ((h4 g a w q2).2.1 _ _ fun g' a' w' hI' _ _=>h6 g' a' w' Q hI' hK)
   | false=>
     simp only [Bool.false_eq_true,if_false] at h1
     obtain ⟨st2,h3,_,_,h4⟩:=A5z (P:=P) (w0:=w0) (L:=L) (g0:=g0) (hp0:=hp0) h1
     obtain ⟨st',h5,h6⟩:=B4e hO l st2 h3
     refine ⟨st',h5,fun g a w Q hI hK=>?_⟩
     obtain ⟨q1,q2⟩:=h2 g a w hI
     unfold wpList
     rw [if_neg (by rw [q1];simp)]
     exact h6 g _ w Q (h4 g a w q2) hK
end
end Go.Proofs.YtmfgajbkcnlkcaaGreat.AI
namespace Go.Proofs.YtmfgajbkcnlkcaaGreat.AI
set_option linter.all false
open Go Go.RowKit
section
variable {R:Type} [RowT R] {P:Program} [RowL P R] {w0:World} {L:Nat→Prop} {g0:Nat→Value} {hp0:List (Blk R)} {st st' st0:St R} {g g' gS:Nat→Value} {a:Act} {w w' wS:World} {o:Oper} {d:List Nat}
structure Held (d:List Nat) (st0:St R) (gS:Nat→Value) (wS:World) (st:St R) (g:Nat→Value) (w:World):Prop where
 keeps:W5 d st0 st
 names:∀ i,i<st0.nx→g i=gS i
 tch:Tch gS d wS w
omit [RowL P R] in
theorem Held.same (h:Held d st0 gS wS st g w) (h1:st'.hp=st.hp) (h2:st'.nx=st.nx):Held d st0 gS wS st' g w:=
 ⟨⟨fun id a b=>by rw [h1];exact h.keeps.1 id a b,by rw [h2];exact h.keeps.2⟩,h.names,h.tch⟩
theorem C7s (h0:HOK P w0 L st0.nx st0.hp gS wS) (hd:∀ x∈d,∃ t cs,get st0.hp x=some (.box t cs)) (h:Held d st0 gS wS st g w) (ho:B4z d st0.nx st o=true) :
 ∀ w1,Tch gS d wS w1→LdOK P st g w0.heap.size o w1:=by
 intro w1 ht id hid b hb
 have h1:=List.all_eq_true.1 ho id hid
 simp only [Bool.and_eq_true,Bool.not_eq_true'] at h1
 have hlt:id<st0.nx:=by
  have:=h1.1
  simp only [Nat.blt] at this
  exact Nat.le_of_ble_eq_true this
 have hnd:id ∉ d:=fun hm=>by have:=C0t.2 hm;rw [this] at h1;simp at h1
 rw [h.keeps.1 id hlt hnd] at hb
 have hbk:=h0.blk id b hb
 have hmv:S3 P gS w1 w0.heap.size id b:=hbk.move fun n hn=>ht.block n (hbk.lt hn) fun x hx hbx=>by
  obtain ⟨t,cs,hg⟩:=hd x hx
  exact h0.sep x _ id b n hg hb (fun e=>hnd (e▸hx)) trivial hbx hn
 exact hmv.name (h.names id hlt) fun j hj=>h.names j (h0.idB id b hb j hj)
omit [RowL P R] in
theorem Held.step (h:Held d st0 gS wS st g w) (hd:∀ x∈d,x<st0.nx) {wr:List Nat} (hs:∀ x∈wr,x∈d) (hk:W5 wr st st') (hg:∀ i,i<st.nx→g' i=g i) (ht:Tch g wr w w'):Held d st0 gS wS st' g' w':=by
 have hn:=h.keeps.2
 refine ⟨h.keeps.trans ⟨fun id h1 h2=>hk.1 id h1 fun hm=>h2 (hs id hm),hk.2⟩,fun i hi=>(hg i (by omega)).trans (h.names i hi),?_⟩
 refine ⟨ht.os.trans h.tch.os,ht.tape.trans h.tch.tape,ht.output.trans h.tch.output,Nat.le_trans h.tch.size ht.size,fun k hk1 hk2=>?_⟩
 rw [ht.block k (Nat.lt_of_lt_of_le hk1 h.tch.size) fun id hid=>by rw [h.names id (hd id (hs id hid))];exact hk2 id (hs id hid)]
 exact h.tch.block k hk1 hk2
theorem A6k {ops:Array Oper} {listed:Array Bool}:∀ {l:List Nat} {j:Nat},B0y ops listed l=some j→j∈l∧Region.free .any ops listed j=true∧∃ o,ops[j]? = some o∧A0j o.op=true
 | [],j,h=>by simp [B0y] at h
 | i::l,j,h=>by
   simp only [B0y] at h
   split at h
   · rename_i o ho
     cases hc:(A0j o.op&&Region.free .any ops listed i) with
     | true=>
       rw [hc] at h
       simp only [cond_true,Option.some.injEq] at h;subst h
       simp only [Bool.and_eq_true] at hc
       exact ⟨List.mem_cons_self ..,hc.2,o,ho,hc.1⟩
     | false=>
       rw [hc] at h
       obtain ⟨h1,h2⟩:=A6k (by simpa using h)
       exact ⟨List.mem_cons_of_mem _ h1,h2⟩
   · obtain ⟨h1,h2⟩:=A6k (by simpa using h)
     exact ⟨List.mem_cons_of_mem _ h1,h2⟩
theorem A3x {ops:Array Oper}:∀ {f:Nat} {listed:Array Bool} {l:List Nat},A3y ops f listed=some l→
 (l=[]∧Region.ready .any ops listed=[])∨∃ i r f',l=i::r∧f=f'+1∧A3y ops f' (listed.setIfInBounds i true)=some r ∧
   ((i∈Region.ready .any ops listed∧Region.free .any ops listed i=true∧∃ o,ops[i]? = some o∧A0j o.op=true)∨Region.ready .any ops listed=[i])
 | 0,listed,l,h=>by
   simp only [A3y] at h
   split at h
   · rename_i hr;simp only [Option.some.injEq] at h;exact .inl ⟨h.symm,hr⟩
   · simp at h
 | f+1,listed,l,h=>by
   simp only [A3y] at h
   split at h
   · rename_i hr;simp only [Option.some.injEq] at h;exact .inl ⟨h.symm,hr⟩
   · rename_i i r hr
     split at h
     · rename_i j hj
       split at h
       · rename_i l' hl
         simp only [Option.some.injEq] at h;subst h
         obtain ⟨h1,h2⟩:=A6k hj
         exact .inr ⟨j,l',f,rfl,rfl,hl,.inl ⟨by rw [hr];exact h1,h2⟩⟩
       · simp at h
     · split at h
       · split at h
         · rename_i l' hl
           simp only [Option.some.injEq] at h;subst h
           exact .inr ⟨i,l',f,rfl,rfl,hl,.inr hr⟩
         · simp at h
       · simp at h
theorem A9c {O:List (Cal R)} (hO:∀ c∈O,G8 P c) {k:Nat} {Z:Type} {K:St R→Option Z} {z:Z} {ops:Array Oper} (hsel:Region.noSelect ops=true):∀ (l:List Nat) (f:Nat) (listed:Array Bool) (st:St R),A3y ops f listed=some l→B6u P O k ops.toList d st0.nx l st K=some z→
 ∃ st',K st'=some z∧∀ gS wS,HOK P w0 L st0.nx st0.hp gS wS→(∀ x∈d,x<st0.nx∧∃ t cs,get st0.hp x=some (.box t cs))→∀ g a w (Q:Exit→Act→World→Prop),(∀ c a w,¬ Q (.panic c) a w)→Inv P w0 L g0 hp0 st g a w→Held d st0 gS wS st g w→
  (∀ g' a' w',Inv P w0 L g0 hp0 st' g' a' w'→Q .normal a' w')→wpAnyH P .any ops Q (Tch gS d wS) f listed a w
 | [],f,listed,st,hp,h=>by
   simp only [B6u] at h
   rcases A3x hp with ⟨_,hr⟩ | ⟨i,r,f',e,_⟩
   · exact ⟨st,h,fun gS wS h0 hd g a w Q hQ hI hH hK=>wpAnyH_done hr (hK g a w hI) f⟩
   · simp at e
 | i::l,f,listed,st,hp,h=>by
   rcases A3x hp with ⟨e,_⟩ | ⟨i',r,f',e,rfl,hp',hcase⟩
   · simp at e
   · injection e with e1 e2;subst e1;subst e2
     simp only [B6u] at h
     split at h
     case h_2=>simp at h
     rename_i o ho
     rw [A0z,Array.getElem?_toList] at ho
     obtain ⟨b,st1,h1,hh1,hn1,h2⟩:=A4s (P:=P) (w0:=w0) (L:=L) (g0:=g0) (hp0:=hp0) h
     cases b with
     | true=>
       simp only [if_true] at h1
       cases hc:(!A0j o.op||B4z d st0.nx st1 o) with
       | false=>rw [hc] at h1;simp at h1
       | true=>
         rw [hc] at h1
         simp only [cond_true] at h1
         obtain ⟨st2,wr,h3,h4,h5⟩:=C0g (w0:=w0) (L:=L) (g0:=g0) (hp0:=hp0) hO h1
         have hwr:=h5 d rfl
         obtain ⟨st',h6,h7⟩:=A9c hO hsel l f' _ st2 hp' h3
         refine ⟨st',h6,fun gS wS h0 hd g a w Q hQ hI hH hK=>?_⟩
         obtain ⟨q1,q2⟩:=h2 g a w hI
         have hH1:=hH.same (st':=st1) hh1 hn1
         obtain ⟨k1,k2,k3⟩:=h4 g a w q2
         rcases hcase with ⟨c1,c2,o',c3,c4⟩ | c1
         · rw [ho] at c3;injection c3 with c3;subst c3
           obtain ⟨v,v1,v2⟩:=k3 c4
           have hol:B4z d st0.nx st1 o=true:=by simpa [c4] using hc
           have hld:=C7s h0 (fun x hx=>(hd x hx).2) hH1 hol
           refine wpAnyH_take ho hsel c2 (by simpa using c1) (fun c a w hq=>absurd hq (hQ c _ w)) (.inl ⟨q1,fun w1 hw1=>v2 w1 (hld w1 hw1)⟩) hH.tch ?_
           refine h7 gS wS h0 hd g _ w Q hQ v1 ?_ hK
           exact ⟨hH1.keeps.trans ⟨fun id y1 y2=>k1.1 id y1 fun hm=>y2 (hwr id hm),k1.2⟩,hH1.names,hH1.tch⟩
         · refine wpAnyH_all c1 (by simp) fun j hj=>?_
           simp only [List.mem_singleton] at hj;subst hj
           unfold wpOp
           rw [ho]
           simp only [q1,if_true]
           exact .inl (k2 _ _ fun g' a' w' hI' hg' ht'=>by
            have hH2:=hH1.step (fun x hx=>(hd x hx).1) hwr k1 hg' ht'
            exact ⟨hH2.tch,h7 gS wS h0 hd g' a' w' Q hQ hI' hH2 hK⟩)
     | false=>
       simp only [Bool.false_eq_true,if_false] at h1
       obtain ⟨st2,h3,hh2,hn2,h4⟩:=A5z (P:=P) (w0:=w0) (L:=L) (g0:=g0) (hp0:=hp0) h1
       obtain ⟨st',h6,h7⟩:=A9c hO hsel l f' _ st2 hp' h3
       refine ⟨st',h6,fun gS wS h0 hd g a w Q hQ hI hH hK=>?_⟩
       obtain ⟨q1,q2⟩:=h2 g a w hI
       have hH2:=(hH.same (st':=st1) hh1 hn1).same (st':=st2) hh2 hn2
       rcases hcase with ⟨c1,c2,o',c3,c4⟩ | c1
       · rw [ho] at c3;injection c3 with c3;subst c3
         exact wpAnyH_take ho hsel c2 (by simpa using c1) (fun c a w hq=>absurd hq (hQ c _ w)) (.inr ⟨q1,rfl⟩) hH.tch (h7 gS wS h0 hd g _ w Q hQ (h4 g a w q2) hH2 hK)
       · refine wpAnyH_all c1 (by simp) fun j hj=>?_
         simp only [List.mem_singleton] at hj;subst hj
         unfold wpOp
         rw [ho]
         simp only [q1,Bool.false_eq_true,if_false]
         exact ⟨hH.tch,h7 gS wS h0 hd g _ w Q hQ (h4 g a w q2) hH2 hK⟩
theorem A9b {O:List (Cal R)} (hO:∀ c∈O,G8 P c) {k:Nat} {Z:Type} {K:St R→Option Z} {z:Z} {ops:Array Oper} (hsel:Region.noSelect ops=true) (hnl:B8k ops.toList=true):∀ (l:List Nat) (f:Nat) (listed:Array Bool) (st:St R),A3y ops f listed=some l→B6t P O k ops.toList l st K=some z→
 ∃ st',K st'=some z∧∀ g a w (Q:Exit→Act→World→Prop),(∀ c a w,¬ Q (.panic c) a w)→Inv P w0 L g0 hp0 st g a w→
  (∀ g' a' w',Inv P w0 L g0 hp0 st' g' a' w'→Q .normal a' w')→wpAnyH P .any ops Q (fun _=>True) f listed a w
 | [],f,listed,st,hp,h=>by
   simp only [B6t] at h
   rcases A3x hp with ⟨_,hr⟩ | ⟨i,r,f',e,_⟩
   · exact ⟨st,h,fun g a w Q hQ hI hK=>wpAnyH_done hr (hK g a w hI) f⟩
   · simp at e
 | i::l,f,listed,st,hp,h=>by
   rcases A3x hp with ⟨e,_⟩ | ⟨i',r,f',e,rfl,hp',hcase⟩
   · simp at e
   · injection e with e1 e2;subst e1;subst e2
     simp only [B6t] at h
     split at h
     case h_2=>simp at h
     rename_i o ho
     rw [A0z,Array.getElem?_toList] at ho
     obtain ⟨b,st1,h1,hh1,hn1,h2⟩:=A4s (P:=P) (w0:=w0) (L:=L) (g0:=g0) (hp0:=hp0) h
     cases b with
     | true=>
       simp only [if_true] at h1
       obtain ⟨st2,wr,h3,h4,h5⟩:=C0g (w0:=w0) (L:=L) (g0:=g0) (hp0:=hp0) hO h1
       obtain ⟨st',h6,h7⟩:=A9b hO hsel hnl l f' _ st2 hp' h3
       refine ⟨st',h6,fun g a w Q hQ hI hK=>?_⟩
       obtain ⟨q1,q2⟩:=h2 g a w hI
       obtain ⟨k1,k2,k3⟩:=h4 g a w q2
       rcases hcase with ⟨c1,c2,o',c3,c4⟩ | c1
       · rw [ho] at c3;injection c3 with c3;subst c3
         obtain ⟨v,v1,v2⟩:=k3 c4
         have hl0:=List.all_eq_true.1 hnl o (by rw [← Array.getElem?_toList] at ho;exact List.mem_of_getElem? ho)
         have hld:∀ w1,LdOK P st1 g w0.heap.size o w1:=fun w1=>C7j (fun t x e=>by rw [e] at hl0;simp at hl0) w1
         refine wpAnyH_take ho hsel c2 (by simpa using c1) (fun c a w hq=>absurd hq (hQ c _ w)) (.inl ⟨q1,fun w1 _=>v2 w1 (hld w1)⟩) trivial ?_
         exact h7 g _ w Q hQ v1 hK
       · refine wpAnyH_all c1 (by simp) fun j hj=>?_
         simp only [List.mem_singleton] at hj;subst hj
         unfold wpOp
         rw [ho]
         simp only [q1,if_true]
         exact .inl (k2 _ _ fun g' a' w' hI' hg' ht'=>⟨trivial,h7 g' a' w' Q hQ hI' hK⟩)
     | false=>
       simp only [Bool.false_eq_true,if_false] at h1
       obtain ⟨st2,h3,hh2,hn2,h4⟩:=A5z (P:=P) (w0:=w0) (L:=L) (g0:=g0) (hp0:=hp0) h1
       obtain ⟨st',h6,h7⟩:=A9b hO hsel hnl l f' _ st2 hp' h3
       refine ⟨st',h6,fun g a w Q hQ hI hK=>?_⟩
       obtain ⟨q1,q2⟩:=h2 g a w hI
       rcases hcase with ⟨c1,c2,o',c3,c4⟩ | c1
       · rw [ho] at c3;injection c3 with c3;subst c3
         exact wpAnyH_take ho hsel c2 (by simpa using c1) (fun c a w hq=>absurd hq (hQ c _ w)) (.inr ⟨q1,rfl⟩) trivial (h7 g _ w Q hQ (h4 g a w q2) hK)
       · refine wpAnyH_all c1 (by simp) fun j hj=>?_
         simp only [List.mem_singleton] at hj;subst hj
         unfold wpOp
         rw [ho]
         simp only [q1,Bool.false_eq_true,if_false]
         exact ⟨trivial,h7 g _ w Q hQ (h4 g a w q2) hK⟩
omit [RowL P R] in
theorem A9e {st:St R} {w:World} (h:HOK P w0 L st.nx st.hp g w):∀ (l:List Oper),∀ x∈A9f st l,x<st.nx∧∃ t cs,get st.hp x=some (.box t cs)
 | [],x,hx=>by simp [A9f] at hx
 | o::l,x,hx=>by
   unfold A9f at hx
   repeat' split at hx
   all_goals first
    | exact A9e h l x hx
    | (rcases List.mem_cons.1 hx with rfl | hx
       · rename_i hb;exact ⟨h.idH _ _ hb,_,_,hb⟩
       · exact A9e h l x hx)
theorem B6r {O:List (Cal R)} (hO:∀ c∈O,G8 P c) (hm:P.follows .mixedOrders=true) {k:Nat} {Z:Type} {K:St R→Option Z} {z:Z} {id:Nat} {ops:Array Oper} {draw:Bool} (h:B4c P O k ops draw st K=some z) :
 ∃ st',K st'=some z∧∀ g a w (Q:Exit→Act→World→Prop),(∀ c a w,¬ Q (.panic c) a w)→Inv P w0 L g0 hp0 st g a w→(∀ g' a' w',Inv P w0 L g0 hp0 st' g' a' w'→Q .normal a' w')→(Code.region id ops draw).wp P Q a w:=by
 unfold B4c at h
 cases draw with
 | false=>
   obtain ⟨st',h1,h2⟩:=B4e (w0:=w0) (L:=L) (g0:=g0) (hp0:=hp0) hO _ st h
   exact ⟨st',h1,fun g a w Q _ hI hK=>wp_region_list (h2 g a w Q hI hK)⟩
 | true=>
   simp only [cond_true] at h
   split at h
   case h_2=>simp at h
   rename_i l hl
   unfold plan at hl
   cases hs:Region.noSelect ops with
   | false=>rw [hs] at hl;simp at hl
   | true=>
     rw [hs] at hl
     simp only [cond_true] at hl
     have hI0:∀ {g:Nat→Value} {a:Act} {w:World},Inv P w0 L g0 hp0 st g a w→Inv P w0 L g0 hp0 st g a { w with drawn:=w.drawn+1 }:=fun hI=>⟨hI.defers,hI.size,hI.tm,hI.idT,hI.ep,hI.keep,hI.args,hI.na,hI.hpna,hI.heap.grow ⟨rfl,rfl,rfl,Nat.le_refl _,fun _ _ _=>rfl⟩⟩
     cases hnl:B8k ops.toList with
     | true=>
       rw [hnl] at h
       obtain ⟨st',h1,h2⟩:=A9b (w0:=w0) (L:=L) (g0:=g0) (hp0:=hp0) hO hs hnl l _ _ st hl h
       exact ⟨st',h1,fun g a w Q hQ hI hK=>wp_region_held (S:=fun _=>True) hm (h2 g a _ Q hQ (hI0 hI) hK)⟩
     | false=>
     rw [hnl] at h
     simp only [cond_false] at h
     obtain ⟨st',h1,h2⟩:=A9c (w0:=w0) (L:=L) (g0:=g0) (hp0:=hp0) hO hs l _ _ st hl h
     refine ⟨st',h1,fun g a w Q hQ hI hK=>wp_region_held (S:=Tch g (A9f st ops.toList) { w with drawn:=w.drawn+1 }) hm ?_⟩
     have hI1:Inv P w0 L g0 hp0 st g a { w with drawn:=w.drawn+1 }:=⟨hI.defers,hI.size,hI.tm,hI.idT,hI.ep,hI.keep,hI.args,hI.na,hI.hpna,hI.heap.grow ⟨rfl,rfl,rfl,Nat.le_refl _,fun _ _ _=>rfl⟩⟩
     exact h2 g _ hI1.heap (A9e hI1.heap ops.toList) g a _ Q hQ hI1 ⟨⟨fun _ _ _=>rfl,Nat.le_refl _⟩,fun _ _=>rfl,Tch.refl _ _ _⟩ hK
end
end Go.Proofs.YtmfgajbkcnlkcaaGreat.AI
namespace Go.Proofs.YtmfgajbkcnlkcaaGreat.AI
set_option linter.all false
open Go Go.RowKit
section
variable {R:Type} [RowT R] {P:Program} [RowL P R] {w0:World} {L:Nat→Prop} {g0:Nat→Value} {hp0:List (Blk R)} {st st':St R} {g g':Nat→Value} {a:Act} {w w':World}
def LW (P:Program) (c:Code) (Q:Exit→Act→World→Prop) (a:Act) (w:World):Prop:=
 ∀ (b:Frame) (k:List Item) (cs:List Frame),∃ e a' w',Q e a' w'∧Arrives P (lone (b.at a (.code c::.inLoop c::k)) cs w) b k cs e a' w'
omit [RowL P R] in
theorem C7f {c:Code} {Q:Exit→Act→World→Prop} (h:LW P c Q a w):(Code.loop c).wp P Q a w:=fun b k cs=>
 let ⟨e,a',w',hq,harr⟩:=h b k cs;⟨e,a',w',hq,.of_steps (.one step_loop) harr⟩
theorem C7g {P:Program} {a:Act} {w:World} {c:Code} {Q:Exit→Act→World→Prop} (h:c.wp P (Exit.then (LW P c Q) Q) a w):LW P c Q a w:=by
 intro b k cs
 obtain ⟨e,a₁,w₁,hq,harr⟩:=h b (.inLoop c::k) cs
 cases e with
 | normal=>
   obtain ⟨e₂,a₂,w₂,hq₂,harr₂⟩:=hq b k cs
   exact ⟨e₂,a₂,w₂,hq₂,.of_steps (Steps.trans harr (.one step_inLoop)) harr₂⟩
 | exit id=>exact ⟨_,a₁,w₁,hq,.pass (x:=.inLoop c) rfl (fun _ _=>.inl (by simp)) harr⟩
 | goto l=>exact ⟨_,a₁,w₁,hq,.pass (x:=.inLoop c) rfl (fun _ _=>.inl (by simp)) harr⟩
 | ret=>exact ⟨_,a₁,w₁,hq,.pass (x:=.inLoop c) rfl (fun _ _=>.inl (by simp)) harr⟩
 | panic ch=>exact ⟨_,a₁,w₁,hq,.pass (x:=.inLoop c) rfl (fun _ _=>.inl (by simp)) harr⟩
 | outgrown=>exact ⟨_,a₁,w₁,hq,.pass (x:=.inLoop c) rfl (fun _ _=>.inl (by simp)) harr⟩
def qr (P:Program) (c:Code) (Q0:Exit→Act→World→Prop):List Bool→Exit→Act→World→Prop
 | []=>Q0
 | d::p=>match sub c p with
   | some (.seq _ b)=>cond d (qr P c Q0 p) (Exit.then (b.wp P (qr P c Q0 p)) (qr P c Q0 p))
   | some (.block id _)=>Exit.inBlock id (qr P c Q0 p)
   | some (.loop x)=>Exit.then (LW P x (qr P c Q0 p)) (qr P c Q0 p)
   | _=>qr P c Q0 p
def A2e (Q:Exit→Act→World→Prop):Prop:=∀ c a w,¬ Q (.panic c) a w
theorem C3s {P:Program} {c:Code} {Q0:Exit→Act→World→Prop} (h:A2e Q0):∀ p,A2e (qr P c Q0 p)
 | []=>h
 | d::p=>by
   have ih:=C3s (P:=P) (c:=c) h p
   simp only [qr]
   split
   · cases d
     · exact ih
     · exact ih
   · exact ih
   · exact ih
   · exact ih
def Ex.out:Ex→Exit
 | .normal=>.normal
 | .exit id=>.exit id
 | .ret=>.ret
def A7c (P:Program) (root:Code) (Q0:Exit→Act→World→Prop) (p:List Bool) (a:Act) (w:World):Prop:=match sub root p with
 | some (.loop x)=>LW P x (qr P root Q0 p) a w
 | some (.cond t x y)=>(Code.cond t x y).wp P (qr P root Q0 p) a w
 | some (.seq x y)=>(Code.seq x y).wp P (qr P root Q0 p) a w
 | _=>False
theorem C5w:∀ {p q:List Bool},eqP p q=true→p=q
 | [],[],_=>rfl
 | x::p,y::q,h=>by
   simp only [eqP,Bool.and_eq_true,beq_iff_eq] at h
   rw [h.1,C5w h.2]
 | [],_::_,h=>by simp [eqP] at h
 | _::_,[],h=>by simp [eqP] at h
omit [RowT R] in
theorem B5s:∀ {cs:List (Cut R)} {p:List Bool} {c:Cut R},A9h cs p=some c→c∈cs∧c.p=p
 | [],p,c,h=>by simp [A9h] at h
 | x::cs,p,c,h=>by
   simp only [A9h] at h
   cases hb:eqP x.p p with
   | true=>rw [hb] at h;simp only [cond_true,Option.some.injEq] at h;subst h;exact ⟨List.mem_cons_self ..,C5w hb⟩
   | false=>rw [hb] at h;obtain ⟨h1,h2⟩:=B5s (by simpa using h);exact ⟨List.mem_cons_of_mem _ h1,h2⟩
section body
variable {O:List (Cal R)} {cs:List (Cut R)} {k:Nat} {root:Code} {Q0:Exit→Act→World→Prop} {out:Out R}
def Claim (P:Program) (w0:World) (L:Nat→Prop) (g0:Nat→Value) (hp0:List (Blk R)) (root:Code) (Q0:Exit→Act→World→Prop) (out:Out R) (cs:List (Cut R)) (k:Nat):Prop:=
 ∀ c∈cs,∀ st,c.f k st=some out→∀ g a w,Inv P w0 L g0 hp0 st g a w→A7c P root Q0 c.p a w
def KOK (P:Program) (w0:World) (L:Nat→Prop) (g0:Nat→Value) (hp0:List (Blk R)) (out:Out R) (K:Ex→St R→Option (Out R)) (Q:Exit→Act→World→Prop):Prop:=
 ∀ e st,K e st=some out→∀ g a w,Inv P w0 L g0 hp0 st g a w→Q e.out a w
theorem A8j (hc:Claim P w0 L g0 hp0 root Q0 out cs k) {p:List Bool} {c:Cut R} (hp:A9h cs p=some c) (h:stop k c st=some out) (hI:Inv P w0 L g0 hp0 st g a w):A7c P root Q0 p a w:=by
 unfold stop at h
 split at h
 · rename_i st' hs
   obtain ⟨g',hI'⟩:=C4v hI hs
   obtain ⟨h1,h2⟩:=B5s hp
   have:=hc c h1 st' h g' a w hI'
   rwa [h2] at this
 · simp at h
theorem A1c (hO:∀ c∈O,G8 P c) (hm:P.follows .mixedOrders=true) (hnp:A2e Q0) (hc:Claim P w0 L g0 hp0 root Q0 out cs k):∀ (c:Code) (p:List Bool) (st:St R) (K:Ex→St R→Option (Out R)),
 sub root p=some c→KOK P w0 L g0 hp0 out K (qr P root Q0 p)→A0x P O cs k c p st K=some out→∀ g a w,Inv P w0 L g0 hp0 st g a w→c.wp P (qr P root Q0 p) a w:=by
 intro c
 induction c with
 | skip=>intro p st K hp hK h g a w hI;exact wp_skip (hK .normal st h g a w hI)
 | region id ops draw=>
   intro p st K hp hK h g a w hI
   simp only [A0x] at h
   obtain ⟨st',h1,h2⟩:=B6r (w0:=w0) (L:=L) (g0:=g0) (hp0:=hp0) (id:=id) hO hm h
   exact h2 g a w _ (C3s hnp p) hI fun g' a' w' hI'=>hK .normal st' h1 g' a' w' hI'
 | seq x y ihx ihy=>
   intro p st K hp hK h g a w hI
   simp only [A0x] at h
   split at h
   · rename_i ct hcut
     have:=A8j hc hcut h hI
     simp only [A7c,hp] at this
     exact this
   · have e1:qr P root Q0 (false::p)=Exit.then (y.wp P (qr P root Q0 p)) (qr P root Q0 p):=by simp only [qr,hp,cond_false]
     have e2:qr P root Q0 (true::p)=qr P root Q0 p:=by simp only [qr,hp,cond_true]
     have h1:=ihx (false::p) st _ (by simp only [sub,hp,cond_false]) ?_ h g a w hI
     · rw [e1] at h1;exact wp_seq h1
     · rw [e1]
       intro e st1 h1 g1 a1 w1 hI1
       cases e with
       | normal=>
          have h2:=ihy (true::p) st1 K (by simp only [sub,hp,cond_true]) (by rw [e2];exact hK) h1 g1 a1 w1 hI1
          rw [e2] at h2;exact h2
       | exit id=>exact hK (.exit id) st1 h1 g1 a1 w1 hI1
       | ret=>exact hK .ret st1 h1 g1 a1 w1 hI1
 | cond t x y ihx ihy=>
   intro p st K hp hK h g a w hI
   have e1:∀ d,qr P root Q0 (d::p)=qr P root Q0 p:=fun d=>by simp only [qr,hp]
   cases t with
   | tmp t=>
     simp only [A0x] at h
     split at h
     · rename_i ct hcut
       have:=A8j hc hcut h hI
       simp only [A7c,hp] at this
       exact this
     · obtain ⟨b,st1,h1,_,_,h2⟩:=B3w (P:=P) (w0:=w0) (L:=L) (g0:=g0) (hp0:=hp0) h
       obtain ⟨q1,q2⟩:=h2 g a w hI
       refine wp_cond (t:=b) (by simp [Act.eval,Array.getD_eq_getD_getElem?,q1]) ?_
       cases b with
       | true=>
         have h3:=ihx (false::p) st1 K (by simp only [sub,hp,cond_false]) (by rw [e1];exact hK) (by simpa using h1) g a w q2
         rw [e1] at h3;simpa using h3
       | false=>
         have h3:=ihy (true::p) st1 K (by simp only [sub,hp,cond_true]) (by rw [e1];exact hK) (by simpa using h1) g a w q2
         rw [e1] at h3;simpa using h3
   | const _=>simp [A0x] at h
   | global _=>simp [A0x] at h
   | func _=>simp [A0x] at h
 | block id x ih=>
   intro p st K hp hK h g a w hI
   simp only [A0x] at h
   have e1:∀ d,qr P root Q0 (d::p)=Exit.inBlock id (qr P root Q0 p):=fun d=>by simp only [qr,hp]
   have h1:=ih (false::p) st _ (by simp only [sub,hp]) ?_ h g a w hI
   · rw [e1] at h1;exact wp_block h1
   · rw [e1]
     intro e st1 h1 g1 a1 w1 hI1
     cases e with
     | normal=>exact hK .normal st1 h1 g1 a1 w1 hI1
     | exit j=>
       simp only at h1
       show (if j=id then qr P root Q0 p .normal a1 w1 else qr P root Q0 p (.exit j) a1 w1)
       cases hb:Nat.beq j id with
       | true=>rw [hb] at h1;rw [if_pos (O3 hb)];exact hK .normal st1 h1 g1 a1 w1 hI1
       | false=>rw [hb] at h1;rw [if_neg (fun e=>by rw [e,Nat.beq_refl] at hb;simp at hb)];exact hK (.exit j) st1 h1 g1 a1 w1 hI1
     | ret=>exact hK .ret st1 h1 g1 a1 w1 hI1
 | loop x _=>
   intro p st K hp hK h g a w hI
   simp only [A0x] at h
   split at h
   · rename_i ct hcut
     have:=A8j hc hcut h hI
     simp only [A7c,hp] at this
     exact C7f this
   · simp at h
 | exit id=>intro p st K hp hK h g a w hI;exact wp_exit (hK (.exit id) st h g a w hI)
 | ret=>intro p st K hp hK h g a w hI;exact wp_ret (hK .ret st h g a w hI)
 | _=>intro p st K hp hK h;simp [A0x] at h
theorem B9b (hO:∀ c∈O,G8 P c) (hm:P.follows .mixedOrders=true) (hnp:A2e Q0) (hc:Claim P w0 L g0 hp0 root Q0 out cs k) {K0:Ex→St R→Option (Out R)} (h0:KOK P w0 L g0 hp0 out K0 Q0) :
 ∀ p,KOK P w0 L g0 hp0 out (kr P O cs k root K0 p) (qr P root Q0 p)
 | []=>h0
 | d::p=>by
   have ih:=B9b hO hm hnp hc h0 p
   intro e st h g a w hI
   cases hp:sub root p with
   | none=>simp [kr,hp] at h
   | some c=>
     cases c with
     | seq x y=>
       simp only [kr,hp] at h
       simp only [qr,hp]
       cases d with
       | true=>exact ih e st h g a w hI
       | false=>
         simp only [cond_false] at h ⊢
         have e2:qr P root Q0 (true::p)=qr P root Q0 p:=by simp only [qr,hp,cond_true]
         cases e with
         | normal=>
           have h2:=A1c hO hm hnp hc y (true::p) st _ (by simp only [sub,hp,cond_true]) (by rw [e2];exact ih) h g a w hI
           rw [e2] at h2;exact h2
         | exit id=>exact ih (.exit id) st h g a w hI
         | ret=>exact ih .ret st h g a w hI
     | cond x y z=>simp only [kr,hp] at h;simp only [qr,hp];exact ih e st h g a w hI
     | block id x=>
       simp only [kr,hp] at h
       simp only [qr,hp]
       cases e with
       | normal=>exact ih .normal st h g a w hI
       | exit j=>
         show (if j=id then qr P root Q0 p .normal a w else qr P root Q0 p (.exit j) a w)
         simp only at h
         cases hb:Nat.beq j id with
         | true=>rw [hb] at h;rw [if_pos (O3 hb)];exact ih .normal st h g a w hI
         | false=>rw [hb] at h;rw [if_neg (fun e=>by rw [e,Nat.beq_refl] at hb;simp at hb)];exact ih (.exit j) st h g a w hI
       | ret=>exact ih .ret st h g a w hI
     | loop x=>
       simp only [kr,hp] at h
       simp only [qr,hp]
       cases e with
       | normal=>
         simp only at h
         split at h
         · rename_i ct hcut
           have:=A8j hc hcut h hI
           simp only [A7c,hp] at this
           exact this
         · simp at h
       | exit j=>exact ih (.exit j) st h g a w hI
       | ret=>exact ih .ret st h g a w hI
     | _=>simp [kr,hp] at h
theorem C8r (hO:∀ c∈O,G8 P c) (hm:P.follows .mixedOrders=true) (hnp:A2e Q0) (hc:Claim P w0 L g0 hp0 root Q0 out cs k) {K0:Ex→St R→Option (Out R)} (h0:KOK P w0 L g0 hp0 out K0 Q0)
 {p:List Bool} (h:seg P O cs k root K0 p st=some out) (hI:Inv P w0 L g0 hp0 st g a w):A7c P root Q0 p a w:=by
 unfold seg at h
 unfold A7c
 split at h
 · rename_i x hp
   rw [hp]
   have e1:qr P root Q0 (false::p)=Exit.then (LW P x (qr P root Q0 p)) (qr P root Q0 p):=by simp only [qr,hp]
   have h1:=A1c hO hm hnp hc x (false::p) st _ (by simp only [sub,hp]) (B9b hO hm hnp hc h0 _) h g a w hI
   rw [e1] at h1
   exact C7g h1
 · rename_i t x y hp
   rw [hp]
   have e1:∀ d,qr P root Q0 (d::p)=qr P root Q0 p:=fun d=>by simp only [qr,hp]
   obtain ⟨b,st1,h1,_,_,h2⟩:=B3w (P:=P) (w0:=w0) (L:=L) (g0:=g0) (hp0:=hp0) h
   obtain ⟨q1,q2⟩:=h2 g a w hI
   refine wp_cond (t:=b) (by simp [Act.eval,Array.getD_eq_getD_getElem?,q1]) ?_
   have hk:=B9b hO hm hnp hc h0 p
   cases b with
   | true=>
     have h3:=A1c hO hm hnp hc x (false::p) st1 _ (by simp only [sub,hp,cond_false]) (by rw [e1];exact hk) (by simpa using h1) g a w q2
     rw [e1] at h3;simpa using h3
   | false=>
     have h3:=A1c hO hm hnp hc y (true::p) st1 _ (by simp only [sub,hp,cond_true]) (by rw [e1];exact hk) (by simpa using h1) g a w q2
     rw [e1] at h3;simpa using h3
 · rename_i x y hp
   rw [hp]
   have e1:qr P root Q0 (false::p)=Exit.then (y.wp P (qr P root Q0 p)) (qr P root Q0 p):=by simp only [qr,hp,cond_false]
   have e2:qr P root Q0 (true::p)=qr P root Q0 p:=by simp only [qr,hp,cond_true]
   have hk:=B9b hO hm hnp hc h0 p
   have h1:=A1c hO hm hnp hc x (false::p) st _ (by simp only [sub,hp,cond_false]) (by
    rw [e1]
    intro e st1 h1 g1 a1 w1 hI1
    cases e with
    | normal=>
       have h2:=A1c hO hm hnp hc y (true::p) st1 _ (by simp only [sub,hp,cond_true]) (by rw [e2];exact hk) h1 g1 a1 w1 hI1
       rw [e2] at h2;exact h2
    | exit id=>exact hk (.exit id) st1 h1 g1 a1 w1 hI1
    | ret=>exact hk .ret st1 h1 g1 a1 w1 hI1) h g a w hI
   rw [e1] at h1
   exact wp_seq h1
 · simp at h
def Frg (P:Program) (c:Code) (st st':St R):Prop:=
 ∀ (w0:World) (L:Nat→Prop) (g0:Nat→Value) (hp0:List (Blk R)) (g:Nat→Value) (a:Act) (w:World) (Q:Exit→Act→World→Prop),A2e Q→Inv P w0 L g0 hp0 st g a w→(∀ g' a' w',Inv P w0 L g0 hp0 st' g' a' w'→Q .normal a' w')→c.wp P Q a w
def Fgn (P:Program) (O:List (Cal R)) (cs:List (Cut R)) (k:Nat) (root:Code) (K0:Ex→St R→Option (Out R)) (p:List Bool) (st:St R) (out:Out R):Prop:=
 (∃ st' x y,sub root p=some (.seq x y)∧Frg P x st st'∧A0x P O cs k y (true::p) st' (kr P O cs k root K0 p)=some out) ∨
 ∃ st' t x y,sub root p=some (.cond t x y)∧Frg P (.cond t x y) st st'∧kr P O cs k root K0 p .normal st'=some out
theorem D1r (hO:∀ c∈O,G8 P c) (hm:P.follows .mixedOrders=true) (hnp:A2e Q0) (hc:Claim P w0 L g0 hp0 root Q0 out cs k) {K0:Ex→St R→Option (Out R)} (h0:KOK P w0 L g0 hp0 out K0 Q0)
 {p:List Bool} (h:Fgn P O cs k root K0 p st out) (hI:Inv P w0 L g0 hp0 st g a w):A7c P root Q0 p a w:=by
 have hk:=B9b hO hm hnp hc h0 p
 unfold A7c
 rcases h with ⟨st',x,y,hp,hf,h⟩ | ⟨st',t,x,y,hp,hf,h⟩
 · rw [hp]
   have e1:qr P root Q0 (false::p)=Exit.then (y.wp P (qr P root Q0 p)) (qr P root Q0 p):=by simp only [qr,hp,cond_false]
   have e2:qr P root Q0 (true::p)=qr P root Q0 p:=by simp only [qr,hp,cond_true]
   have hn:=C3s (P:=P) (c:=root) hnp (false::p)
   rw [e1] at hn
   refine wp_seq (hf w0 L g0 hp0 g a w _ hn hI fun g1 a1 w1 hI1=>?_)
   have h2:=A1c hO hm hnp hc y (true::p) st' _ (by simp only [sub,hp,cond_true]) (by rw [e2];exact hk) h g1 a1 w1 hI1
   rw [e2] at h2;exact h2
 · rw [hp]
   exact hf w0 L g0 hp0 g a w _ (C3s hnp p) hI fun g1 a1 w1 hI1=>hk .normal st' h g1 a1 w1 hI1
theorem A9k (hO:∀ c∈O,G8 P c) (hm:P.follows .mixedOrders=true) (hnp:A2e Q0) {K0:Ex→St R→Option (Out R)} (h0:KOK P w0 L g0 hp0 out K0 Q0) (hz:∀ c∈cs,∀ st,c.f 0 st=none)
 (hs:∀ c∈cs,∀ k st out,c.f (k+1) st=some out→seg P O cs k root K0 c.p st=some out∨Fgn P O cs k root K0 c.p st out):∀ k,Claim P w0 L g0 hp0 root Q0 out cs k
 | 0=>fun c hc st h=>by rw [hz c hc] at h;simp at h
 | k+1=>fun c hc st h g a w hI=>(hs c hc k st out h).elim (fun h=>C8r hO hm hnp (A9k hO hm hnp h0 hz hs k) h0 h hI) fun h=>D1r hO hm hnp (A9k hO hm hnp h0 hz hs k) h0 h hI
end body
theorem A7m {α:Type}:∀ (l:List α) (n i:Nat),get (A3v l n) i=if n≤i then l[i-n]? else none
 | [],n,i=>by simp [A3v,get]
 | x::l,n,i=>by
   simp only [A3v]
   rw [O5,A7m l (n+1) i]
   by_cases h:n=i
   · subst h;simp
   · rw [if_neg h]
     by_cases h2:n≤i
     · rw [if_pos h2,if_pos (by omega),show i-n=(i-(n+1))+1 by omega,List.getElem?_cons_succ]
     · rw [if_neg h2,if_neg (by omega)]
theorem B8j {α:Type} (l:List α) (i:Nat):get (A3v l 0) i=l[i]?:=by rw [A7m];simp
omit [RowL P R] in
theorem C3p {w:World} {g:Nat→Value} {args:List V} {hp:List (Blk R)} (h:A0h P w g args hp) {nt:Nat} (hn:args.length≤nt) :
 Inv P w (fun n=>∃ (i:Nat) (b:Blk R),hp[i]? = some b∧b.mut∧HasB g i n b) g hp (start nt args hp) g { tmps:=(args.map (H7 g)).toArray++Array.replicate (nt-(args.map (H7 g)).toArray.size) undef,defers:=[] } w:=by
 have hg:∀ t v,get (start nt args hp).tm t=some v→args[t]? = some v:=fun t v hv=>by rwa [start,B8j] at hv
 have hh:∀ i,get (start nt args hp).hp i=hp[i]?:=fun i=>by rw [start,B8j]
 refine ⟨rfl,by simp [start];omega,fun t v hv _=>?_,fun t v hv id hid=>h.ids v (List.mem_of_getElem? (hg t v hv)) id hid,fun t v hv=>(h.plain v (List.mem_of_getElem? (hg t v hv))).2,fun i b hb=>⟨b,by rw [hh];exact hb,S4.refl (h.kind i b hb).dead,h.kind i b hb⟩,fun _ _=>rfl,Nat.le_refl _,rfl,?_⟩
 · have h1:=hg t v hv
   have h2:t<args.length:=L4 h1
   rw [Array.getElem?_append_left (by simpa using h2)]
   simp [h1]
 · refine ⟨fun i b hb=>h.idB i b (by rw [← hh];exact hb),fun i b hb=>?_,fun i b hb=>h.blk i b (by rw [← hh];exact hb),fun i b i' b' n hb hb'=>h.sep i b i' b' n (by rw [← hh];exact hb) (by rw [← hh];exact hb'),fun i b n hb hm hn=>.inr ⟨i,b,by rw [← hh];exact hb,hm,hn⟩,fun i hi=>h.one i hi,⟨rfl,rfl,rfl,Nat.le_refl _,fun _ _ _=>rfl⟩⟩
   exact L4 (by rw [← hh];exact hb:hp[i]? = some b)
theorem D5a {O:List (Cal R)} (hO:∀ c∈O,G8 P c) (hm:P.follows .mixedOrders=true) {f:FuncId} {fn:Func} {root:Code} {cs:List (Cut R)} (hf:P.funcs[f]? = some fn) (hb:fn.body=some root)
 (hz:∀ c∈cs,∀ st,c.f 0 st=none) (hs:∀ c∈cs,∀ k st out,c.f (k+1) st=some out→seg P O cs k root (kEnd P fn.results.toList) c.p st=some out∨Fgn P O cs k root (kEnd P fn.results.toList) c.p st out)
 {k:Nat} {args:List V} {hp:List (Blk R)} {out:Out R} (h:enter P O cs k fn root args hp=some out):Good P f args hp out:=by
 intro w g hA
 unfold enter at h
 cases hn:Nat.ble args.length fn.ntmps with
 | false=>rw [hn] at h;simp at h
 | true=>
   rw [hn] at h
   simp only [cond_true] at h
   have hI:=C3p hA (Nat.le_of_ble_eq_true hn)
   refine calls_of_wp hf hb ?_
   have h0:KOK P w (fun n=>∃ (i:Nat) (b:Blk R),hp[i]? = some b∧b.mut∧HasB g i n b) g hp out (kEnd P fn.results.toList) (bodyPost P fn fun e w'=>∃ c g',e = .returned c∧B6x P w g hp out c w' g'):=by
    intro e st hk g1 a1 w1 hI1
    have fin:∀ hfin:B5p P fn.results.toList st=some out,a1.defers=[]∧∃ v,(results fn a1.tmps).run P w1 = .ok v w1∧∃ c g',Ending.returned v = .returned c∧B6x P w g hp out c w1 g':=fun hfin=>by
     obtain ⟨c,g',q1,q2⟩:=C0c hI1 hfin
     exact ⟨hI1.defers,c,q1,c,g',rfl,q2⟩
    cases e with
    | normal=>exact fin hk
    | ret=>exact fin hk
    | exit id=>simp [kEnd] at hk
   have hnp:A2e (bodyPost P fn fun e w'=>∃ c g',e = .returned c∧B6x P w g hp out c w' g'):=by
    rintro c a w ⟨_,_,_,h,_⟩;cases h
   exact A1c hO hm hnp (A9k hO hm hnp h0 hz hs k) root [] _ _ rfl h0 h g _ w hI
end
end Go.Proofs.YtmfgajbkcnlkcaaGreat.AI
namespace Go.Proofs.YtmfgajbkcnlkcaaGreat.AI
set_option linter.all false
open Go Go.RowKit
section
variable {R:Type} [RowT R] {P:Program} [RowL P R]
theorem A7j {b:Blk R} (h:isRo b=true):¬ b.mut:=by
 cases b with
 | rows k r=>cases k with
   | zero=>exact fun h=>h
   | succ k=>simp [isRo] at h
 | box _ _=>simp [isRo] at h
 | dead=>exact fun h=>h
theorem B3q {b:Blk R} (h:isRo b=true):∃ r,b = .rows 0 r:=by
 cases b with
 | rows k r=>cases k with
   | zero=>exact ⟨r,rfl⟩
   | succ k=>simp [isRo] at h
 | box _ _=>simp [isRo] at h
 | dead=>simp [isRo] at h
theorem A2c {w:World} {g:Nat→Value} {args:List V} {hp:List (Blk R)} (hro:∀ b∈hp,isRo b=true) (hids:∀ v∈args,(∀ id∈idsV v,id<hp.length)∧v≠.no∧EpOK P (A3v hp 0) v)
 (hblk:∀ (i:Nat) b,hp[i]? = some b→S3 P g w w.heap.size i b):A0h P w g args hp:=by
 have ro:∀ (i:Nat) b,hp[i]? = some b→∃ r,b = .rows 0 r:=fun i b hb=>B3q (hro b (List.mem_of_getElem? hb))
 refine ⟨fun v hv=>(hids v hv).1,fun i b hb j hj=>?_,hblk,fun i b i' b' n hb _ _ hm=>?_,fun i hi=>?_,fun i b hb=>?_,fun v hv=>(hids v hv).2⟩
 · obtain ⟨r,rfl⟩:=ro i b hb;simp [idsB] at hj
 · exact absurd hm (A7j (hro b (List.mem_of_getElem? hb)))
 · obtain ⟨r,hr⟩:=ro i _ (List.getElem?_eq_getElem hi)
   have:=hblk i _ (List.getElem?_eq_getElem hi)
   rw [hr] at this
   obtain ⟨A,c,hg,_⟩:=this
   rw [hg];rfl
 · obtain ⟨r,rfl⟩:=ro i b hb;trivial
theorem A6i {f:FuncId} {args:List V} {hp:List (Blk R)} {res:List W} (hro:∀ b∈hp,isRo b=true) (hres:∀ y∈res,idsW y=[])
 (h:∀ w g,A0h P w g args hp→Calls P f (args.map (H7 g)).toArray w fun e w'=>e = .returned (resC g res)∧Below w.heap.size w w'):Good P f args hp ⟨res,hp⟩:=by
 intro w g hA
 refine (h w g hA).mono ?_
 rintro e w' ⟨rfl,hb⟩
 refine ⟨_,g,rfl,rfl,fun _ _=>rfl,fun y hy id hid=>by rw [hres y hy] at hid;simp at hid,hA.idB,fun i b hi=>(hA.blk i b hi).move fun n hn=>hb.block n ((hA.blk i b hi).lt hn),hA.sep,fun i b hi=>⟨b,hi,S4.refl (hA.kind i b hi).dead⟩,fun i b hi hib=>?_,hA.one,⟨hb.os,hb.tape,hb.output,hb.size,fun k hk _=>hb.block k hk⟩⟩
 have:=L4 hib
 exact absurd hi (by show ¬ hp.length≤i;have:i<hp.length:=this;omega)
theorem B0l {w:World} {base n size:Nat} {t:TypeId} {v:Value} {cs:List Value} (h:w.ownsRow base t size v n cs):v.oneCell'=true∧∀ m,T9 v=some m→base≤m:=by
 rcases h.2 with ⟨hv,_⟩ | ⟨b,cap,cur,hv,hb,_⟩
 · subst hv;exact ⟨rfl,fun m hm=>by simp [T9] at hm⟩
 · subst hv;exact ⟨rfl,fun m hm=>by simp only [T9,Option.some.injEq] at hm;omega⟩
theorem A1b {f:FuncId} {args:List V} {hp:List (Blk R)} {r:R} (hro:∀ b∈hp,isRo b=true)
 (h:∀ w g,A0h P w g args hp→Calls P f (args.map (H7 g)).toArray w fun e w'=>∃ v,e = .returned v∧w'.ownsRow w.heap.size (RowT.ty r) (P.cellsOf (RowT.ty r)) v (RowT.len r) (flat r)∧Below w.heap.size w w') :
 Good P f args hp ⟨[.c (.rw hp.length)],hp++[.rows 2 r]⟩:=by
 intro w g hA
 refine (h w g hA).mono ?_
 rintro e w' ⟨v,rfl,hown,hb⟩
 obtain ⟨hone,hblk⟩:=B0l hown
 have hs:upd g hp.length v hp.length=v:=U0 ..
 have ho:∀ i,i<hp.length→upd g hp.length v i=g i:=fun i hi=>V3 g v (by omega)
 have cas:∀ (i:Nat) b,(hp++[.rows 2 r])[i]? = some b→(hp[i]? = some b∧i<hp.length∧∃ q,b = .rows 0 q)∨(i=hp.length∧b = .rows 2 r):=by
  intro i b hi
  rcases Nat.lt_or_ge i hp.length with q | q
  · rw [List.getElem?_append_left q] at hi;exact .inl ⟨hi,q,B3q (hro b (List.mem_of_getElem? hi))⟩
  · rw [List.getElem?_append_right q] at hi
    have:=L4 hi
    have e0:i-hp.length=0:=by simpa using this
    rw [e0] at hi;simp only [List.getElem?_cons_zero,Option.some.injEq] at hi
    exact .inr ⟨by omega,hi.symm⟩
 have old:∀ (i:Nat) b,hp[i]? = some b→S3 P (upd g hp.length v) w' w.heap.size i b:=fun i b hi=>by
  refine ((hA.blk i b hi).move fun n hn=>hb.block n ((hA.blk i b hi).lt hn)).name (ho i (L4 hi)) fun j hj=>ho j (hA.idB i b hi j hj)
 refine ⟨_,upd g hp.length v,rfl,by simp only [resC,O4,conc,hs],ho,fun y hy id hid=>?_,fun i b hi j hj=>?_,fun i b hi=>?_,fun i b i' b' n hi hi' hne hm hn=>?_,fun i b hi=>⟨b,by rw [List.getElem?_append_left (L4 hi)];exact hi,S4.refl (hA.kind i b hi).dead⟩,fun i b hi hib=>?_,fun i hi=>?_,⟨hb.os,hb.tape,hb.output,hb.size,fun k hk _=>hb.block k hk⟩⟩
 · simp only [List.mem_singleton] at hy;subst hy
   simp only [idsW,idsC,List.mem_singleton] at hid;subst hid
   simp
 · rcases cas i b hi with ⟨_,_,q,rfl⟩ | ⟨_,rfl⟩<;>simp [idsB] at hj
 · rcases cas i b hi with ⟨h1,_,_⟩ | ⟨rfl,rfl⟩
   · exact old i b h1
   · show w'.ownsRow (if 1=1 then w.heap.size else 0) _ _ (upd g hp.length v hp.length) _ _
     rw [hs,if_pos rfl];exact hown
 · rcases cas i b hi with ⟨_,_,q,rfl⟩ | ⟨rfl,rfl⟩
   · exact hm.elim
   · rcases cas i' b' hi' with ⟨h1,h2,q,rfl⟩ | ⟨rfl,_⟩
     · intro hn'
       have h3:=hblk n (by rw [← hs];exact hn)
       rw [HasB.name (ho i' h2)] at hn'
       have:=(hA.blk i' _ h1).lt hn'
       omega
     · exact absurd rfl hne
 · rcases cas i b hib with ⟨_,h2,_⟩ | ⟨rfl,rfl⟩
   · omega
   · exact ⟨⟨r,rfl⟩,fun n hn=>hblk n (by rw [← hs];exact hn)⟩
 · simp only [List.length_append,List.length_singleton] at hi
   rcases Nat.lt_or_ge i hp.length with q | q
   · rw [ho i q];exact hA.one i q
   · rw [show i=hp.length by omega,hs];exact hone
omit [RowL P R] in
theorem A0m {f:FuncId} {args:List V} {hp:List (Blk R)} {out:Out R} {w:World} {g:Nat→Value} (hro:∀ b∈hp,isRo b=true) (hres:∀ y∈out.res,idsW y=[]) (h:Good P f args hp out) (hA:A0h P w g args hp) :
 Calls P f (args.map (H7 g)).toArray w fun e w'=>e = .returned (resC g out.res)∧Below w.heap.size w w':=by
 refine (h w g hA).mono ?_
 rintro e w' ⟨c,g',rfl,hr⟩
 refine ⟨by rw [hr.val,A7k (G:=g') (G':=g)];exact List.map_congr_left fun y hy=>A3j fun id hid=>by rw [hres y hy] at hid;simp at hid,hr.frame.os,hr.frame.tape,hr.frame.output,hr.frame.size,fun k hk=>hr.frame.block k hk ?_⟩
 rintro ⟨i,b,hb,hm,_⟩
 exact A7j (hro b (List.mem_of_getElem? hb)) hm
theorem U1 {f:FuncId} {lent:Bool} {sem:Mean R} (fn:∃ fn,P.funcs[f]? = some fn∧(fn.name == "runtime.NumGoroutine")=false∧fn.body.isNone=false)
 (ok:∀ (k:Nat) (args:List V) (hp:List (Blk R)) (Z:Type) (K:Out R→Option Z) (z:Z),sem k args hp Z K=some z→∃ out,K out=some z∧Good P f args hp out):G8 P ⟨f,lent,sem⟩:=⟨fn,ok⟩
def body (f:Func):Code:=f.body.getD .skip
def Lo {Z:Type} (a b:Option Z):Prop:=∀ z,b=some z→a=some z
theorem Lo.of {Z:Type} {a b c:Option Z} (e:a=b) (h:Lo b c):Lo a c:=e▸h
theorem Lo.refl {Z:Type} (a:Option Z):Lo a a:=fun _ h=>h
theorem Lo.eq {Z:Type} {a b:Option Z} (e:a=b):Lo a b:=fun _ h=>e.trans h
theorem C4n {X Z:Type} {p q:Prop} {i:Decidable p} {j:Decidable q} {a b:Option Z} {c d:Option X} {f:X→Option Z} (e:p↔q) (h:p→Lo a (c.bind f)) (h':¬p→Lo b (d.bind f)):Lo (@ite _ p i a b) (Option.bind (@ite _ q j c d) f):=by
 by_cases t:p
 · rw [if_pos t,if_pos (e.1 t)];exact h t
 · rw [if_neg t,if_neg (fun u=>t (e.2 u))];exact h' t
theorem B0r {X Z:Type} {p:Prop} {i:Decidable p} {a b:Option Z} {c d:Option X} {f:X→Option Z} (h:p→Lo a (c.bind f)) (h':¬p→Lo b (d.bind f)):Lo (@ite _ p i a b) (Option.bind (@ite _ p i c d) f):=C4n Iff.rfl h h'
theorem B1e {Z:Type} {p:Prop} {i:Decidable p} {a b c:Option Z} (q:p) (h:Lo a c):Lo (@ite _ p i a b) c:=by rw [if_pos q];exact h
theorem B1j {X Y Z:Type} {x:Option Y} {g':Y→Option Z} {g:Y→Option X} {f:X→Option Z} (h:∀ y,Lo (g' y) ((g y).bind f)):Lo (x.bind g') ((x.bind g).bind f):=by
 cases x with
 | none=>exact Lo.refl _
 | some y=>exact h y
theorem B4m {X Z:Type} {a:X} {f:X→Option Z} {z:Option Z} (h:Lo z (f a)):Lo z ((some a).bind f):=h
theorem C7i {X Y Z:Type} {a:Y} {g:Y→Option X} {f:X→Option Z} {z:Option Z} (h:Lo z ((g a).bind f)):Lo z (((some a).bind g).bind f):=h
theorem B5g {X Y Z:Type} {a:Y} {g':Y→Option Z} {g:Y→Option X} {f:X→Option Z} (h:∀ y,y=a→Lo (g' y) ((g y).bind f)):Lo ((some a).bind g') (((some a).bind g).bind f):=h a rfl
theorem B9a {Y Z:Type} {a:Y} {g:Y→Option Z} {c:Option Z} (h:Lo (g a) c):Lo ((some a).bind g) c:=h
theorem A2h {X Z:Type} {f:X→Option Z} {z:Option Z}:Lo z ((none:Option X).bind f):=fun _ e=>by simp at e
end
end Go.Proofs.YtmfgajbkcnlkcaaGreat.AI
namespace Go.Proofs.YtmfgajbkcnlkcaaGreat.AI
set_option linter.all false
open Go Go.RowKit Go.Proofs.YtmfgajbkcnlkcaaGreatW.PrintWords Go.Proofs.YtmfgajbkcnlkcaaGreat.P
inductive Rw where
 | e60 (l:List S60)
 | e80 (l:List S80)
 | e84 (l:List S84)
 | e93 (l:List S93)
 | e103 (l:List S103)
 | e105 (l:List S105)
 | e106 (l:List S106)
 | e108 (l:List S108)
 | e110 (l:List S110)
 | e112 (l:List S112)
 | e114 (l:List S114)
 | eI (l:List Int)
def n60 (x:S60):List Sc:=[.i .i64 x.f0,.i .i64 x.f1,.i .i64 x.f2,.i .i64 x.f3,.i .i64 x.f4,.i .i64 x.f5,.i .i64 x.f6,.i .i64 x.f7]
def m60:List Sc→Option S60
 | [.i .i64 f0,.i .i64 f1,.i .i64 f2,.i .i64 f3,.i .i64 f4,.i .i64 f5,.i .i64 f6,.i .i64 f7]=>some ⟨f0,f1,f2,f3,f4,f5,f6,f7⟩
 | _=>none
theorem C5m {c:List Sc} {x:S60} (h:m60 c=some x):n60 x=c:=by
 unfold m60 at h
 split at h
 · simp only [Option.some.injEq] at h;subst h;rfl
 · simp at h
theorem C9d {w:World} {x:S60} {cs:List Value}:k60.K w x cs↔cs=(n60 x).map Sc.v:=⟨fun h=>B5j h,fun h=>h▸C9p w x⟩
theorem C6x {w:World} {base:Nat} {ok:Nat→Prop} {x:S60} {cs:List Value}:k60.M w base ok x cs↔cs=(n60 x).map Sc.v:=⟨fun h=>B9e h,fun h=>h▸C7p w base ok x⟩
theorem j60:(Tryz.prog.info? 60).map (fun i=>(i.zero,i.size,i.bytes))=some (some (.agg #[.int .i64 0,.int .i64 0,.int .i64 0,.int .i64 0,.int .i64 0,.int .i64 0,.int .i64 0,.int .i64 0]),8,64):=by kernel_rfl
theorem C5u:∃ i z,Tryz.prog.info? 60=some i∧i.zero=some z∧z.cells.size=i.size∧z.cells.toList=(n60 z60).map Sc.v∧i.size=8∧0<i.bytes:=by
 have h:=j60
 cases hi:Tryz.prog.info? 60 with
 | none=>rw [hi] at h;simp at h
 | some i=>
   rw [hi] at h
   simp only [Option.map_some,Option.some.injEq,Prod.mk.injEq] at h
   obtain ⟨h1,h2,h3⟩:=h
   exact ⟨i,_,rfl,h1,by rw [h2];rfl,rfl,h2,by omega⟩
def n80 (x:S80):List Sc:=[.i .i64 x.f0,.i .i64 x.f1]
def m80:List Sc→Option S80
 | [.i .i64 f0,.i .i64 f1]=>some ⟨f0,f1⟩
 | _=>none
theorem C5l {c:List Sc} {x:S80} (h:m80 c=some x):n80 x=c:=by
 unfold m80 at h
 split at h
 · simp only [Option.some.injEq] at h;subst h;rfl
 · simp at h
theorem C9c {w:World} {x:S80} {cs:List Value}:k80.K w x cs↔cs=(n80 x).map Sc.v:=⟨fun h=>C4l h,fun h=>h▸C9o w x⟩
theorem C6w {w:World} {base:Nat} {ok:Nat→Prop} {x:S80} {cs:List Value}:k80.M w base ok x cs↔cs=(n80 x).map Sc.v:=⟨fun h=>B9d h,fun h=>h▸C7o w base ok x⟩
theorem j80:(Tryz.prog.info? 80).map (fun i=>(i.zero,i.size,i.bytes))=some (some (.agg #[.int .i64 0,.int .i64 0]),2,16):=by kernel_rfl
theorem C5t:∃ i z,Tryz.prog.info? 80=some i∧i.zero=some z∧z.cells.size=i.size∧z.cells.toList=(n80 z80).map Sc.v∧i.size=2∧0<i.bytes:=by
 have h:=j80
 cases hi:Tryz.prog.info? 80 with
 | none=>rw [hi] at h;simp at h
 | some i=>
   rw [hi] at h
   simp only [Option.map_some,Option.some.injEq,Prod.mk.injEq] at h
   obtain ⟨h1,h2,h3⟩:=h
   exact ⟨i,_,rfl,h1,by rw [h2];rfl,rfl,h2,by omega⟩
def n84 (x:S84):List Sc:=[.i .i64 x.f0,.i .i64 x.f1]
def m84:List Sc→Option S84
 | [.i .i64 f0,.i .i64 f1]=>some ⟨f0,f1⟩
 | _=>none
theorem C5k {c:List Sc} {x:S84} (h:m84 c=some x):n84 x=c:=by
 unfold m84 at h
 split at h
 · simp only [Option.some.injEq] at h;subst h;rfl
 · simp at h
theorem C9b {w:World} {x:S84} {cs:List Value}:k84.K w x cs↔cs=(n84 x).map Sc.v:=⟨fun h=>C4k h,fun h=>h▸C9n w x⟩
theorem C6v {w:World} {base:Nat} {ok:Nat→Prop} {x:S84} {cs:List Value}:k84.M w base ok x cs↔cs=(n84 x).map Sc.v:=⟨fun h=>B9c h,fun h=>h▸C7n w base ok x⟩
theorem j84:(Tryz.prog.info? 84).map (fun i=>(i.zero,i.size,i.bytes))=some (some (.agg #[.int .i64 0,.int .i64 0]),2,16):=by kernel_rfl
theorem C5s:∃ i z,Tryz.prog.info? 84=some i∧i.zero=some z∧z.cells.size=i.size∧z.cells.toList=(n84 z84).map Sc.v∧i.size=2∧0<i.bytes:=by
 have h:=j84
 cases hi:Tryz.prog.info? 84 with
 | none=>rw [hi] at h;simp at h
 | some i=>
   rw [hi] at h
   simp only [Option.map_some,Option.some.injEq,Prod.mk.injEq] at h
   obtain ⟨h1,h2,h3⟩:=h
   exact ⟨i,_,rfl,h1,by rw [h2];rfl,rfl,h2,by omega⟩
def n93 (x:S93):List Sc:=[.i .i64 x.f0,.i .i64 x.f1,.i .i64 x.f2]
def m93:List Sc→Option S93
 | [.i .i64 f0,.i .i64 f1,.i .i64 f2]=>some ⟨f0,f1,f2⟩
 | _=>none
theorem C5j {c:List Sc} {x:S93} (h:m93 c=some x):n93 x=c:=by
 unfold m93 at h
 split at h
 · simp only [Option.some.injEq] at h;subst h;rfl
 · simp at h
theorem C9a {w:World} {x:S93} {cs:List Value}:k93.K w x cs↔cs=(n93 x).map Sc.v:=⟨fun h=>B5i h,fun h=>h▸C9m w x⟩
theorem j93:(Tryz.prog.info? 93).map (fun i=>(i.zero,i.size,i.bytes))=some (some (.agg #[.int .i64 0,.int .i64 0,.int .i64 0]),3,24):=by kernel_rfl
theorem C5r:∃ i z,Tryz.prog.info? 93=some i∧i.zero=some z∧z.cells.size=i.size∧z.cells.toList=(n93 z93).map Sc.v∧i.size=3∧0<i.bytes:=by
 have h:=j93
 cases hi:Tryz.prog.info? 93 with
 | none=>rw [hi] at h;simp at h
 | some i=>
   rw [hi] at h
   simp only [Option.map_some,Option.some.injEq,Prod.mk.injEq] at h
   obtain ⟨h1,h2,h3⟩:=h
   exact ⟨i,_,rfl,h1,by rw [h2];rfl,rfl,h2,by omega⟩
def n103 (x:S103):List Sc:=[.i .i64 x.f0,.i .i64 x.f1]
def m103:List Sc→Option S103
 | [.i .i64 f0,.i .i64 f1]=>some ⟨f0,f1⟩
 | _=>none
theorem B8w {c:List Sc} {x:S103} (h:m103 c=some x):n103 x=c:=by
 unfold m103 at h
 split at h
 · simp only [Option.some.injEq] at h;subst h;rfl
 · simp at h
theorem C7e {w:World} {x:S103} {cs:List Value}:k103.K w x cs↔cs=(n103 x).map Sc.v:=⟨fun h=>B9n h,fun h=>h▸B9o w x⟩
theorem j103:(Tryz.prog.info? 103).map (fun i=>(i.zero,i.size,i.bytes))=some (some (.agg #[.int .i64 0,.int .i64 0]),2,16):=by kernel_rfl
theorem B9v:∃ i z,Tryz.prog.info? 103=some i∧i.zero=some z∧z.cells.size=i.size∧z.cells.toList=(n103 z103).map Sc.v∧i.size=2∧0<i.bytes:=by
 have h:=j103
 cases hi:Tryz.prog.info? 103 with
 | none=>rw [hi] at h;simp at h
 | some i=>
   rw [hi] at h
   simp only [Option.map_some,Option.some.injEq,Prod.mk.injEq] at h
   obtain ⟨h1,h2,h3⟩:=h
   exact ⟨i,_,rfl,h1,by rw [h2];rfl,rfl,h2,by omega⟩
def n105 (x:S105):List Sc:=[.i .i64 x.f0,.i .i64 x.f1]
def m105:List Sc→Option S105
 | [.i .i64 f0,.i .i64 f1]=>some ⟨f0,f1⟩
 | _=>none
theorem B8v {c:List Sc} {x:S105} (h:m105 c=some x):n105 x=c:=by
 unfold m105 at h
 split at h
 · simp only [Option.some.injEq] at h;subst h;rfl
 · simp at h
theorem C7d {w:World} {x:S105} {cs:List Value}:k105.K w x cs↔cs=(n105 x).map Sc.v:=⟨fun h=>B9l h,fun h=>h▸B9m w x⟩
theorem j105:(Tryz.prog.info? 105).map (fun i=>(i.zero,i.size,i.bytes))=some (some (.agg #[.int .i64 0,.int .i64 0]),2,16):=by kernel_rfl
theorem B9u:∃ i z,Tryz.prog.info? 105=some i∧i.zero=some z∧z.cells.size=i.size∧z.cells.toList=(n105 z105).map Sc.v∧i.size=2∧0<i.bytes:=by
 have h:=j105
 cases hi:Tryz.prog.info? 105 with
 | none=>rw [hi] at h;simp at h
 | some i=>
   rw [hi] at h
   simp only [Option.map_some,Option.some.injEq,Prod.mk.injEq] at h
   obtain ⟨h1,h2,h3⟩:=h
   exact ⟨i,_,rfl,h1,by rw [h2];rfl,rfl,h2,by omega⟩
def n106 (x:S106):List Sc:=[.i .i64 x.f0,.i .i64 x.f1,.i .i64 x.f2]
def m106:List Sc→Option S106
 | [.i .i64 f0,.i .i64 f1,.i .i64 f2]=>some ⟨f0,f1,f2⟩
 | _=>none
theorem B8u {c:List Sc} {x:S106} (h:m106 c=some x):n106 x=c:=by
 unfold m106 at h
 split at h
 · simp only [Option.some.injEq] at h;subst h;rfl
 · simp at h
theorem C7c {w:World} {x:S106} {cs:List Value}:k106.K w x cs↔cs=(n106 x).map Sc.v:=⟨fun h=>A6f h,fun h=>h▸C7r w x⟩
theorem C4c {w:World} {base:Nat} {ok:Nat→Prop} {x:S106} {cs:List Value}:k106.M w base ok x cs↔cs=(n106 x).map Sc.v:=⟨fun h=>A4q h,fun h=>h▸A4a w base ok x⟩
theorem j106:(Tryz.prog.info? 106).map (fun i=>(i.zero,i.size,i.bytes))=some (some (.agg #[.int .i64 0,.int .i64 0,.int .i64 0]),3,24):=by kernel_rfl
theorem B9t:∃ i z,Tryz.prog.info? 106=some i∧i.zero=some z∧z.cells.size=i.size∧z.cells.toList=(n106 z106).map Sc.v∧i.size=3∧0<i.bytes:=by
 have h:=j106
 cases hi:Tryz.prog.info? 106 with
 | none=>rw [hi] at h;simp at h
 | some i=>
   rw [hi] at h
   simp only [Option.map_some,Option.some.injEq,Prod.mk.injEq] at h
   obtain ⟨h1,h2,h3⟩:=h
   exact ⟨i,_,rfl,h1,by rw [h2];rfl,rfl,h2,by omega⟩
def n108 (x:S108):List Sc:=[.i .i64 x.f0,.i .i64 x.f1,.i .i64 x.f2]
def m108:List Sc→Option S108
 | [.i .i64 f0,.i .i64 f1,.i .i64 f2]=>some ⟨f0,f1,f2⟩
 | _=>none
theorem B8t {c:List Sc} {x:S108} (h:m108 c=some x):n108 x=c:=by
 unfold m108 at h
 split at h
 · simp only [Option.some.injEq] at h;subst h;rfl
 · simp at h
theorem C7b {w:World} {x:S108} {cs:List Value}:k108.K w x cs↔cs=(n108 x).map Sc.v:=⟨fun h=>B9j h,fun h=>h▸B9k w x⟩
theorem j108:(Tryz.prog.info? 108).map (fun i=>(i.zero,i.size,i.bytes))=some (some (.agg #[.int .i64 0,.int .i64 0,.int .i64 0]),3,24):=by kernel_rfl
theorem B9s:∃ i z,Tryz.prog.info? 108=some i∧i.zero=some z∧z.cells.size=i.size∧z.cells.toList=(n108 z108).map Sc.v∧i.size=3∧0<i.bytes:=by
 have h:=j108
 cases hi:Tryz.prog.info? 108 with
 | none=>rw [hi] at h;simp at h
 | some i=>
   rw [hi] at h
   simp only [Option.map_some,Option.some.injEq,Prod.mk.injEq] at h
   obtain ⟨h1,h2,h3⟩:=h
   exact ⟨i,_,rfl,h1,by rw [h2];rfl,rfl,h2,by omega⟩
def n110 (x:S110):List Sc:=[.i .i64 x.f0,.i .i64 x.f1,.i .i64 x.f2,.i .i64 x.f3,.i .i64 x.f4]
def m110:List Sc→Option S110
 | [.i .i64 f0,.i .i64 f1,.i .i64 f2,.i .i64 f3,.i .i64 f4]=>some ⟨f0,f1,f2,f3,f4⟩
 | _=>none
theorem B8s {c:List Sc} {x:S110} (h:m110 c=some x):n110 x=c:=by
 unfold m110 at h
 split at h
 · simp only [Option.some.injEq] at h;subst h;rfl
 · simp at h
theorem C7a {w:World} {x:S110} {cs:List Value}:k110.K w x cs↔cs=(n110 x).map Sc.v:=⟨fun h=>A3z h,fun h=>h▸C7q w x⟩
theorem B5c {w:World} {base:Nat} {ok:Nat→Prop} {x:S110} {cs:List Value}:k110.M w base ok x cs↔cs=(n110 x).map Sc.v:=⟨fun h=>A4p h,fun h=>h▸A1a w base ok x⟩
theorem j110:(Tryz.prog.info? 110).map (fun i=>(i.zero,i.size,i.bytes))=some (some (.agg #[.int .i64 0,.int .i64 0,.int .i64 0,.int .i64 0,.int .i64 0]),5,40):=by kernel_rfl
theorem B9r:∃ i z,Tryz.prog.info? 110=some i∧i.zero=some z∧z.cells.size=i.size∧z.cells.toList=(n110 z110).map Sc.v∧i.size=5∧0<i.bytes:=by
 have h:=j110
 cases hi:Tryz.prog.info? 110 with
 | none=>rw [hi] at h;simp at h
 | some i=>
   rw [hi] at h
   simp only [Option.map_some,Option.some.injEq,Prod.mk.injEq] at h
   obtain ⟨h1,h2,h3⟩:=h
   exact ⟨i,_,rfl,h1,by rw [h2];rfl,rfl,h2,by omega⟩
def n112 (x:S112):List Sc:=[.i .i64 x.f0,.i .i64 x.f1,.i .i64 x.f2,.i .i64 x.f3,.i .i64 x.f4]
def m112:List Sc→Option S112
 | [.i .i64 f0,.i .i64 f1,.i .i64 f2,.i .i64 f3,.i .i64 f4]=>some ⟨f0,f1,f2,f3,f4⟩
 | _=>none
theorem B8r {c:List Sc} {x:S112} (h:m112 c=some x):n112 x=c:=by
 unfold m112 at h
 split at h
 · simp only [Option.some.injEq] at h;subst h;rfl
 · simp at h
theorem C6z {w:World} {x:S112} {cs:List Value}:k112.K w x cs↔cs=(n112 x).map Sc.v:=⟨fun h=>B9h h,fun h=>h▸B9i w x⟩
theorem j112:(Tryz.prog.info? 112).map (fun i=>(i.zero,i.size,i.bytes))=some (some (.agg #[.int .i64 0,.int .i64 0,.int .i64 0,.int .i64 0,.int .i64 0]),5,40):=by kernel_rfl
theorem B9q:∃ i z,Tryz.prog.info? 112=some i∧i.zero=some z∧z.cells.size=i.size∧z.cells.toList=(n112 z112).map Sc.v∧i.size=5∧0<i.bytes:=by
 have h:=j112
 cases hi:Tryz.prog.info? 112 with
 | none=>rw [hi] at h;simp at h
 | some i=>
   rw [hi] at h
   simp only [Option.map_some,Option.some.injEq,Prod.mk.injEq] at h
   obtain ⟨h1,h2,h3⟩:=h
   exact ⟨i,_,rfl,h1,by rw [h2];rfl,rfl,h2,by omega⟩
def n114 (x:S114):List Sc:=[.i .i64 x.f0,.i .i64 x.f1,.i .i64 x.f2,.i .i64 x.f3,.i .i64 x.f4,.i .i64 x.f5,.i .i64 x.f6,.i .i64 x.f7]
def m114:List Sc→Option S114
 | [.i .i64 f0,.i .i64 f1,.i .i64 f2,.i .i64 f3,.i .i64 f4,.i .i64 f5,.i .i64 f6,.i .i64 f7]=>some ⟨f0,f1,f2,f3,f4,f5,f6,f7⟩
 | _=>none
theorem B8q {c:List Sc} {x:S114} (h:m114 c=some x):n114 x=c:=by
 unfold m114 at h
 split at h
 · simp only [Option.some.injEq] at h;subst h;rfl
 · simp at h
theorem C6y {w:World} {x:S114} {cs:List Value}:k114.K w x cs↔cs=(n114 x).map Sc.v:=⟨fun h=>B9f h,fun h=>h▸B9g w x⟩
theorem j114:(Tryz.prog.info? 114).map (fun i=>(i.zero,i.size,i.bytes))=some (some (.agg #[.int .i64 0,.int .i64 0,.int .i64 0,.int .i64 0,.int .i64 0,.int .i64 0,.int .i64 0,.int .i64 0]),8,64):=by kernel_rfl
theorem B9p:∃ i z,Tryz.prog.info? 114=some i∧i.zero=some z∧z.cells.size=i.size∧z.cells.toList=(n114 z114).map Sc.v∧i.size=8∧0<i.bytes:=by
 have h:=j114
 cases hi:Tryz.prog.info? 114 with
 | none=>rw [hi] at h;simp at h
 | some i=>
   rw [hi] at h
   simp only [Option.map_some,Option.some.injEq,Prod.mk.injEq] at h
   obtain ⟨h1,h2,h3⟩:=h
   exact ⟨i,_,rfl,h1,by rw [h2];rfl,rfl,h2,by omega⟩
def nI (x:Int):List Sc:=[.i .i64 x]
def mI:List Sc→Option Int
 | [.i .i64 x]=>some x
 | _=>none
theorem C9g {c:List Sc} {x:Int} (h:mI c=some x):nI x=c:=by
 unfold mI at h
 split at h
 · simp only [Option.some.injEq] at h;subst h;rfl
 · simp at h
theorem j3:(Tryz.prog.info? 3).map (fun i=>(i.zero,i.size,i.bytes))=some (some (.int .i64 0),1,8):=by kernel_rfl
theorem C9v:∃ i z,Tryz.prog.info? 3=some i∧i.zero=some z∧z.cells.size=i.size∧z.cells.toList=(nI 0).map Sc.v∧i.size=1∧0<i.bytes:=by
 have h:=j3
 cases hi:Tryz.prog.info? 3 with
 | none=>rw [hi] at h;simp at h
 | some i=>
   rw [hi] at h
   simp only [Option.map_some,Option.some.injEq,Prod.mk.injEq] at h
   obtain ⟨h1,h2,h3⟩:=h
   exact ⟨i,_,rfl,h1,by rw [h2];rfl,rfl,h2,by omega⟩
instance:RowT Rw where
 ty:=fun
  | .e60 _=>60
  | .e80 _=>80
  | .e84 _=>84
  | .e93 _=>93
  | .e103 _=>103
  | .e105 _=>105
  | .e106 _=>106
  | .e108 _=>108
  | .e110 _=>110
  | .e112 _=>112
  | .e114 _=>114
  | .eI _=>3
 cel:=fun
  | .e60 l=>l.map n60
  | .e80 l=>l.map n80
  | .e84 l=>l.map n84
  | .e93 l=>l.map n93
  | .e103 l=>l.map n103
  | .e105 l=>l.map n105
  | .e106 l=>l.map n106
  | .e108 l=>l.map n108
  | .e110 l=>l.map n110
  | .e112 l=>l.map n112
  | .e114 l=>l.map n114
  | .eI l=>l.map nI
 len:=fun
  | .e60 l=>l.length
  | .e80 l=>l.length
  | .e84 l=>l.length
  | .e93 l=>l.length
  | .e103 l=>l.length
  | .e105 l=>l.length
  | .e106 l=>l.length
  | .e108 l=>l.length
  | .e110 l=>l.length
  | .e112 l=>l.length
  | .e114 l=>l.length
  | .eI l=>l.length
 elt:=fun
  | .e60 l,i=>n60 (l.getD i z60)
  | .e80 l,i=>n80 (l.getD i z80)
  | .e84 l,i=>n84 (l.getD i z84)
  | .e93 l,i=>n93 (l.getD i z93)
  | .e103 l,i=>n103 (l.getD i z103)
  | .e105 l,i=>n105 (l.getD i z105)
  | .e106 l,i=>n106 (l.getD i z106)
  | .e108 l,i=>n108 (l.getD i z108)
  | .e110 l,i=>n110 (l.getD i z110)
  | .e112 l,i=>n112 (l.getD i z112)
  | .e114 l,i=>n114 (l.getD i z114)
  | .eI l,i=>nI (l.getD i 0)
 nil:=fun t=>cond (Nat.beq t 60) (some (.e60 [])) (cond (Nat.beq t 80) (some (.e80 [])) (cond (Nat.beq t 84) (some (.e84 [])) (cond (Nat.beq t 93) (some (.e93 [])) (cond (Nat.beq t 103) (some (.e103 [])) (cond (Nat.beq t 105) (some (.e105 [])) (cond (Nat.beq t 106) (some (.e106 [])) (cond (Nat.beq t 108) (some (.e108 [])) (cond (Nat.beq t 110) (some (.e110 [])) (cond (Nat.beq t 112) (some (.e112 [])) (cond (Nat.beq t 114) (some (.e114 [])) (cond (Nat.beq t 3) (some (.eI [])) (none))))))))))))
 zer:=fun t n=>cond (Nat.beq t 60) (some (.e60 (List.replicate n z60))) (cond (Nat.beq t 80) (some (.e80 (List.replicate n z80))) (cond (Nat.beq t 84) (some (.e84 (List.replicate n z84))) (cond (Nat.beq t 93) (some (.e93 (List.replicate n z93))) (cond (Nat.beq t 103) (some (.e103 (List.replicate n z103))) (cond (Nat.beq t 105) (some (.e105 (List.replicate n z105))) (cond (Nat.beq t 106) (some (.e106 (List.replicate n z106))) (cond (Nat.beq t 108) (some (.e108 (List.replicate n z108))) (cond (Nat.beq t 110) (some (.e110 (List.replicate n z110))) (cond (Nat.beq t 112) (some (.e112 (List.replicate n z112))) (cond (Nat.beq t 114) (some (.e114 (List.replicate n z114))) (cond (Nat.beq t 3) (some (.eI (List.replicate n 0))) (none))))))))))))
 snoc:=fun
  | .e60 l,c=>match m60 c with
    | some x=>some (.e60 (l++[x]))
    | none=>none
  | .e80 l,c=>match m80 c with
    | some x=>some (.e80 (l++[x]))
    | none=>none
  | .e84 l,c=>match m84 c with
    | some x=>some (.e84 (l++[x]))
    | none=>none
  | .e93 l,c=>match m93 c with
    | some x=>some (.e93 (l++[x]))
    | none=>none
  | .e103 l,c=>match m103 c with
    | some x=>some (.e103 (l++[x]))
    | none=>none
  | .e105 l,c=>match m105 c with
    | some x=>some (.e105 (l++[x]))
    | none=>none
  | .e106 l,c=>match m106 c with
    | some x=>some (.e106 (l++[x]))
    | none=>none
  | .e108 l,c=>match m108 c with
    | some x=>some (.e108 (l++[x]))
    | none=>none
  | .e110 l,c=>match m110 c with
    | some x=>some (.e110 (l++[x]))
    | none=>none
  | .e112 l,c=>match m112 c with
    | some x=>some (.e112 (l++[x]))
    | none=>none
  | .e114 l,c=>match m114 c with
    | some x=>some (.e114 (l++[x]))
    | none=>none
  | .eI l,c=>match mI c with
    | some x=>some (.eI (l++[x]))
    | none=>none
 app:=fun
  | .e60 l,.e60 m=>some (.e60 (l++m))
  | .e80 l,.e80 m=>some (.e80 (l++m))
  | .e84 l,.e84 m=>some (.e84 (l++m))
  | .e93 l,.e93 m=>some (.e93 (l++m))
  | .e103 l,.e103 m=>some (.e103 (l++m))
  | .e105 l,.e105 m=>some (.e105 (l++m))
  | .e106 l,.e106 m=>some (.e106 (l++m))
  | .e108 l,.e108 m=>some (.e108 (l++m))
  | .e110 l,.e110 m=>some (.e110 (l++m))
  | .e112 l,.e112 m=>some (.e112 (l++m))
  | .e114 l,.e114 m=>some (.e114 (l++m))
  | .eI l,.eI m=>some (.eI (l++m))
  | _,_=>none
 set:=fun
  | .e60 l,i,c=>match m60 c with
    | some x=>some (.e60 (l.set i x))
    | none=>none
  | .e80 l,i,c=>match m80 c with
    | some x=>some (.e80 (l.set i x))
    | none=>none
  | .e84 l,i,c=>match m84 c with
    | some x=>some (.e84 (l.set i x))
    | none=>none
  | .e93 l,i,c=>match m93 c with
    | some x=>some (.e93 (l.set i x))
    | none=>none
  | .e103 l,i,c=>match m103 c with
    | some x=>some (.e103 (l.set i x))
    | none=>none
  | .e105 l,i,c=>match m105 c with
    | some x=>some (.e105 (l.set i x))
    | none=>none
  | .e106 l,i,c=>match m106 c with
    | some x=>some (.e106 (l.set i x))
    | none=>none
  | .e108 l,i,c=>match m108 c with
    | some x=>some (.e108 (l.set i x))
    | none=>none
  | .e110 l,i,c=>match m110 c with
    | some x=>some (.e110 (l.set i x))
    | none=>none
  | .e112 l,i,c=>match m112 c with
    | some x=>some (.e112 (l.set i x))
    | none=>none
  | .e114 l,i,c=>match m114 c with
    | some x=>some (.e114 (l.set i x))
    | none=>none
  | .eI l,i,c=>match mI c with
    | some x=>some (.eI (l.set i x))
    | none=>none
 sub:=fun
  | .e60 l,lo,n=>.e60 ((l.drop lo).take n)
  | .e80 l,lo,n=>.e80 ((l.drop lo).take n)
  | .e84 l,lo,n=>.e84 ((l.drop lo).take n)
  | .e93 l,lo,n=>.e93 ((l.drop lo).take n)
  | .e103 l,lo,n=>.e103 ((l.drop lo).take n)
  | .e105 l,lo,n=>.e105 ((l.drop lo).take n)
  | .e106 l,lo,n=>.e106 ((l.drop lo).take n)
  | .e108 l,lo,n=>.e108 ((l.drop lo).take n)
  | .e110 l,lo,n=>.e110 ((l.drop lo).take n)
  | .e112 l,lo,n=>.e112 ((l.drop lo).take n)
  | .e114 l,lo,n=>.e114 ((l.drop lo).take n)
  | .eI l,lo,n=>.eI ((l.drop lo).take n)
 setK:=fun r i c Z K=>match r with
  | .e60 l=>match m60 c with
    | some x=>Option.bind (some (l.set i x)) fun y=>K (.e60 y)
    | none=>none
  | .e80 l=>match m80 c with
    | some x=>Option.bind (some (l.set i x)) fun y=>K (.e80 y)
    | none=>none
  | .e84 l=>match m84 c with
    | some x=>Option.bind (some (l.set i x)) fun y=>K (.e84 y)
    | none=>none
  | .e93 l=>match m93 c with
    | some x=>Option.bind (some (l.set i x)) fun y=>K (.e93 y)
    | none=>none
  | .e103 l=>match m103 c with
    | some x=>Option.bind (some (l.set i x)) fun y=>K (.e103 y)
    | none=>none
  | .e105 l=>match m105 c with
    | some x=>Option.bind (some (l.set i x)) fun y=>K (.e105 y)
    | none=>none
  | .e106 l=>match m106 c with
    | some x=>Option.bind (some (l.set i x)) fun y=>K (.e106 y)
    | none=>none
  | .e108 l=>match m108 c with
    | some x=>Option.bind (some (l.set i x)) fun y=>K (.e108 y)
    | none=>none
  | .e110 l=>match m110 c with
    | some x=>Option.bind (some (l.set i x)) fun y=>K (.e110 y)
    | none=>none
  | .e112 l=>match m112 c with
    | some x=>Option.bind (some (l.set i x)) fun y=>K (.e112 y)
    | none=>none
  | .e114 l=>match m114 c with
    | some x=>Option.bind (some (l.set i x)) fun y=>K (.e114 y)
    | none=>none
  | .eI l=>match mI c with
    | some x=>Option.bind (some (l.set i x)) fun y=>K (.eI y)
    | none=>none
theorem O6 {t u:Nat} {a r:Rw} {b:Option Rw} (h:cond (Nat.beq t u) (some a) b=some r):(t=u∧a=r)∨b=some r:=by
 cases hb:Nat.beq t u with
 | true=>rw [hb] at h;simp only [cond_true,Option.some.injEq] at h;exact .inl ⟨Nat.eq_of_beq_eq_true hb,h⟩
 | false=>rw [hb] at h;exact .inr h
instance:RowL Tryz.prog Rw where
 len_eq:=fun r=>by cases r<;>simp [RowT.len,RowT.cel]
 sub_eq:=fun r lo n=>by cases r<;>exact ⟨by simp [RowT.sub,RowT.cel,List.map_take,List.map_drop],rfl⟩
 elt_eq:=fun r i h=>by cases r<;>simp only [RowT.len,RowT.cel,RowT.elt] at*<;> simp [List.getElem?_map,List.getElem?_eq_getElem h,List.getD_eq_getElem?_getD]
 nil_eq:=fun t r h=>by
  simp only [RowT.nil] at h
  rcases O6 h with ⟨rfl,rfl⟩ | h
  · exact ⟨rfl,rfl⟩
  rcases O6 h with ⟨rfl,rfl⟩ | h
  · exact ⟨rfl,rfl⟩
  rcases O6 h with ⟨rfl,rfl⟩ | h
  · exact ⟨rfl,rfl⟩
  rcases O6 h with ⟨rfl,rfl⟩ | h
  · exact ⟨rfl,rfl⟩
  rcases O6 h with ⟨rfl,rfl⟩ | h
  · exact ⟨rfl,rfl⟩
  rcases O6 h with ⟨rfl,rfl⟩ | h
  · exact ⟨rfl,rfl⟩
  rcases O6 h with ⟨rfl,rfl⟩ | h
  · exact ⟨rfl,rfl⟩
  rcases O6 h with ⟨rfl,rfl⟩ | h
  · exact ⟨rfl,rfl⟩
  rcases O6 h with ⟨rfl,rfl⟩ | h
  · exact ⟨rfl,rfl⟩
  rcases O6 h with ⟨rfl,rfl⟩ | h
  · exact ⟨rfl,rfl⟩
  rcases O6 h with ⟨rfl,rfl⟩ | h
  · exact ⟨rfl,rfl⟩
  rcases O6 h with ⟨rfl,rfl⟩ | h
  · exact ⟨rfl,rfl⟩
  simp at h
 zer_eq:=fun t n r h=>by
  simp only [RowT.zer] at h
  rcases O6 h with ⟨rfl,rfl⟩ | h
  · obtain ⟨i,z,h1,h2,h3,h4,_⟩:=C5u
    exact ⟨rfl,i,z,_,h1,h2,h4,by simp [RowT.cel]⟩
  rcases O6 h with ⟨rfl,rfl⟩ | h
  · obtain ⟨i,z,h1,h2,h3,h4,_⟩:=C5t
    exact ⟨rfl,i,z,_,h1,h2,h4,by simp [RowT.cel]⟩
  rcases O6 h with ⟨rfl,rfl⟩ | h
  · obtain ⟨i,z,h1,h2,h3,h4,_⟩:=C5s
    exact ⟨rfl,i,z,_,h1,h2,h4,by simp [RowT.cel]⟩
  rcases O6 h with ⟨rfl,rfl⟩ | h
  · obtain ⟨i,z,h1,h2,h3,h4,_⟩:=C5r
    exact ⟨rfl,i,z,_,h1,h2,h4,by simp [RowT.cel]⟩
  rcases O6 h with ⟨rfl,rfl⟩ | h
  · obtain ⟨i,z,h1,h2,h3,h4,_⟩:=B9v
    exact ⟨rfl,i,z,_,h1,h2,h4,by simp [RowT.cel]⟩
  rcases O6 h with ⟨rfl,rfl⟩ | h
  · obtain ⟨i,z,h1,h2,h3,h4,_⟩:=B9u
    exact ⟨rfl,i,z,_,h1,h2,h4,by simp [RowT.cel]⟩
  rcases O6 h with ⟨rfl,rfl⟩ | h
  · obtain ⟨i,z,h1,h2,h3,h4,_⟩:=B9t
    exact ⟨rfl,i,z,_,h1,h2,h4,by simp [RowT.cel]⟩
  rcases O6 h with ⟨rfl,rfl⟩ | h
  · obtain ⟨i,z,h1,h2,h3,h4,_⟩:=B9s
    exact ⟨rfl,i,z,_,h1,h2,h4,by simp [RowT.cel]⟩
  rcases O6 h with ⟨rfl,rfl⟩ | h
  · obtain ⟨i,z,h1,h2,h3,h4,_⟩:=B9r
    exact ⟨rfl,i,z,_,h1,h2,h4,by simp [RowT.cel]⟩
  rcases O6 h with ⟨rfl,rfl⟩ | h
  · obtain ⟨i,z,h1,h2,h3,h4,_⟩:=B9q
    exact ⟨rfl,i,z,_,h1,h2,h4,by simp [RowT.cel]⟩
  rcases O6 h with ⟨rfl,rfl⟩ | h
  · obtain ⟨i,z,h1,h2,h3,h4,_⟩:=B9p
    exact ⟨rfl,i,z,_,h1,h2,h4,by simp [RowT.cel]⟩
  rcases O6 h with ⟨rfl,rfl⟩ | h
  · obtain ⟨i,z,h1,h2,h3,h4,_⟩:=C9v
    exact ⟨rfl,i,z,_,h1,h2,h4,by simp [RowT.cel]⟩
  simp at h
 snoc_eq:=fun r r' c h=>by
  cases r<;>simp only [RowT.snoc] at h<;>split at h<;>first | (simp at h;done) | (rename_i x hx;simp only [Option.some.injEq] at h;subst h;refine ⟨?_,rfl⟩;simp only [RowT.cel,List.map_append,List.map_cons,List.map_nil];first | rw [C5m hx] | rw [C5l hx] | rw [C5k hx] | rw [C5j hx] | rw [B8w hx] | rw [B8v hx] | rw [B8u hx] | rw [B8t hx] | rw [B8s hx] | rw [B8r hx] | rw [B8q hx] | rw [C9g hx])
 app_eq:=fun r s r' h=>by
  cases r<;>cases s<;>simp only [RowT.app] at h<;>first | (simp at h;done) | (simp only [Option.some.injEq] at h;subst h;exact ⟨by simp [RowT.cel],rfl,rfl⟩)
 set_eq:=fun r r' i c h=>by
  cases r<;>simp only [RowT.set] at h<;>split at h<;>first | (simp at h;done) | (rename_i x hx;simp only [Option.some.injEq] at h;subst h;refine ⟨?_,rfl⟩;simp only [RowT.cel,List.map_set];first | rw [C5m hx] | rw [C5l hx] | rw [C5k hx] | rw [C5j hx] | rw [B8w hx] | rw [B8v hx] | rw [B8u hx] | rw [B8t hx] | rw [B8s hx] | rw [B8r hx] | rw [B8q hx] | rw [C9g hx])
 setK_eq:=fun r i c Z K z h=>by
  cases r<;>simp only [RowT.setK] at h<;>split at h<;>first | (simp at h;done) | (rename_i x hx;exact ⟨_,by simp only [RowT.set,hx],h⟩)
 info:=fun r=>by
  cases r
  · obtain ⟨i,z,h1,h2,h3,_,h5,h6⟩:=C5u
    refine ⟨i,z,h1,h2,h3,by omega,h6,fun c hc=>?_⟩
    obtain ⟨x,_,rfl⟩:=List.mem_map.1 hc
    rw [h5];rfl
  · obtain ⟨i,z,h1,h2,h3,_,h5,h6⟩:=C5t
    refine ⟨i,z,h1,h2,h3,by omega,h6,fun c hc=>?_⟩
    obtain ⟨x,_,rfl⟩:=List.mem_map.1 hc
    rw [h5];rfl
  · obtain ⟨i,z,h1,h2,h3,_,h5,h6⟩:=C5s
    refine ⟨i,z,h1,h2,h3,by omega,h6,fun c hc=>?_⟩
    obtain ⟨x,_,rfl⟩:=List.mem_map.1 hc
    rw [h5];rfl
  · obtain ⟨i,z,h1,h2,h3,_,h5,h6⟩:=C5r
    refine ⟨i,z,h1,h2,h3,by omega,h6,fun c hc=>?_⟩
    obtain ⟨x,_,rfl⟩:=List.mem_map.1 hc
    rw [h5];rfl
  · obtain ⟨i,z,h1,h2,h3,_,h5,h6⟩:=B9v
    refine ⟨i,z,h1,h2,h3,by omega,h6,fun c hc=>?_⟩
    obtain ⟨x,_,rfl⟩:=List.mem_map.1 hc
    rw [h5];rfl
  · obtain ⟨i,z,h1,h2,h3,_,h5,h6⟩:=B9u
    refine ⟨i,z,h1,h2,h3,by omega,h6,fun c hc=>?_⟩
    obtain ⟨x,_,rfl⟩:=List.mem_map.1 hc
    rw [h5];rfl
  · obtain ⟨i,z,h1,h2,h3,_,h5,h6⟩:=B9t
    refine ⟨i,z,h1,h2,h3,by omega,h6,fun c hc=>?_⟩
    obtain ⟨x,_,rfl⟩:=List.mem_map.1 hc
    rw [h5];rfl
  · obtain ⟨i,z,h1,h2,h3,_,h5,h6⟩:=B9s
    refine ⟨i,z,h1,h2,h3,by omega,h6,fun c hc=>?_⟩
    obtain ⟨x,_,rfl⟩:=List.mem_map.1 hc
    rw [h5];rfl
  · obtain ⟨i,z,h1,h2,h3,_,h5,h6⟩:=B9r
    refine ⟨i,z,h1,h2,h3,by omega,h6,fun c hc=>?_⟩
    obtain ⟨x,_,rfl⟩:=List.mem_map.1 hc
    rw [h5];rfl
  · obtain ⟨i,z,h1,h2,h3,_,h5,h6⟩:=B9q
    refine ⟨i,z,h1,h2,h3,by omega,h6,fun c hc=>?_⟩
    obtain ⟨x,_,rfl⟩:=List.mem_map.1 hc
    rw [h5];rfl
  · obtain ⟨i,z,h1,h2,h3,_,h5,h6⟩:=B9p
    refine ⟨i,z,h1,h2,h3,by omega,h6,fun c hc=>?_⟩
    obtain ⟨x,_,rfl⟩:=List.mem_map.1 hc
    rw [h5];rfl
  · obtain ⟨i,z,h1,h2,h3,_,h5,h6⟩:=C9v
    refine ⟨i,z,h1,h2,h3,by omega,h6,fun c hc=>?_⟩
    obtain ⟨x,_,rfl⟩:=List.mem_map.1 hc
    rw [h5];rfl
theorem A0b {α:Type} {f:α→List Sc} {size:Nat} {Q:α→List Value→Prop} (hQ:∀ x c,Q x c↔c=(f x).map Sc.v) (hs:∀ x,(f x).length=size):∀ {ps:List α} {cs:List Value},Reps Q size ps cs↔cs=(ps.map f).flatten.map Sc.v:=by
 have mk:∀ ps:List α,Reps Q size ps ((ps.map f).flatten.map Sc.v):=by
  intro ps
  induction ps with
  | nil=>exact Reps.none _ _
  | cons p ps ih=>
    have:((p::ps).map f).flatten.map Sc.v=(f p).map Sc.v++(ps.map f).flatten.map Sc.v:=by simp
    rw [this]
    exact Kd.reps_append (ps:=[p]) (qs:=ps) (by simpa using Reps.snoc (Reps.none Q size) ((hQ p _).2 rfl) (by simp [hs])) ih
 intro ps cs
 refine ⟨fun h=>?_,fun h=>h▸mk ps⟩
 have h2:=mk ps
 have hl:cs.length=((ps.map f).flatten.map Sc.v).length:=h.1.trans h2.1.symm
 apply List.ext_getElem?
 intro j
 rcases Nat.eq_zero_or_pos size with h0 | h0
 · have e1:cs.length=0:=by rw [h.1,h0];simp
   rw [List.getElem?_eq_none (by omega),List.getElem?_eq_none (by omega)]
 · have hj:j=(j/size)*size+j % size:=by rw [Nat.mul_comm];exact (Nat.div_add_mod j size).symm
   have hm:=Nat.mod_lt j h0
   cases hp:ps[j/size]? with
   | none=>
     have:ps.length≤j/size:=List.getElem?_eq_none_iff.1 hp
     have h3:ps.length*size≤j:=Nat.le_trans (Nat.mul_le_mul_right _ this) (Nat.div_mul_le_self j size)
     rw [List.getElem?_eq_none (by rw [h.1];exact h3),List.getElem?_eq_none (by rw [h2.1];exact h3)]
   | some p=>
     have a:=(hQ p _).1 (h.2 _ p hp)
     have b:=(hQ p _).1 (h2.2 _ p hp)
     have key:∀ l:List Value,l[j]? = ((l.drop (j/size*size)).take size)[j % size]?:=fun l=>by
      rw [List.getElem?_take,if_pos hm,List.getElem?_drop,← hj]
     rw [key cs,key,a,b]
theorem B5n {α:Type} {f:α→List Sc} {size:Nat} (hs:∀ x,(f x).length=size) (ps:List α):((ps.map f).flatten.map Sc.v).length=ps.length*size:=((A0b (Q:=fun x c=>c=(f x).map Sc.v) (fun _ _=>Iff.rfl) hs).2 rfl).1
theorem X7 {α:Type} {f:α→List Sc} {size:Nat} (q:0<size) {Q:α→List Value→Prop} (hQ:∀ x c,Q x c↔c=(f x).map Sc.v) (hs:∀ x,(f x).length=size) {w:World} {A:Option Addr} {ps:List α} :
 Q3 Q size w A ps.length ps↔ps.length≤maxLen∧∀ j u,((ps.map f).flatten.map Sc.v)[j]? = some u→∃ ad,A=some ad∧w.cell? (ad.add j)=some u:=by
 have hr:=(A0b hQ hs (ps:=ps)).2 rfl
 have hm:maxLen=9223372036854775807:=rfl
 constructor
 · rintro ⟨_,h1,h2⟩
   refine ⟨by rw [hm];exact h1,fun j u hj=>?_⟩
   have hlt:j<ps.length*size:=by
    have:=L4 hj
    rwa [B5n hs] at this
   have h0:=q
   have hq:j/size<ps.length:=(Nat.div_lt_iff_lt_mul h0).2 hlt
   obtain ⟨ad,hA,hc⟩:=h2 (Nat.lt_of_le_of_lt (Nat.zero_le _) hq)
   obtain ⟨c,c1,c2,c3⟩:=hc (j/size) _ (List.getElem?_eq_getElem hq)
   have b:=(hQ _ _).1 (hr.2 _ _ (List.getElem?_eq_getElem hq))
   rw [(hQ _ _).1 c2,← b] at c3
   refine ⟨ad,hA,?_⟩
   have hj':j/size*size+j % size=j:=by rw [Nat.mul_comm];exact Nat.div_add_mod j size
   have:=c3 (j % size) u (by rw [List.getElem?_take,if_pos (Nat.mod_lt j h0),List.getElem?_drop,hj'];exact hj)
   rwa [hj'] at this
 · rintro ⟨h1,h2⟩
   refine ⟨rfl,by rw [← hm];exact h1,fun hpos=>?_⟩
   obtain ⟨ad,hA,_⟩:=h2 0 _ (List.getElem?_eq_getElem (by rw [B5n hs];exact Nat.mul_pos hpos q))
   refine ⟨ad,hA,fun j p hp=>⟨(f p).map Sc.v,by simp [hs],(hQ p _).2 rfl,fun i u hi=>?_⟩⟩
   have b:=(hQ _ _).1 (hr.2 _ _ hp)
   have hi2:i<size:=by have:=L4 hi;simpa [hs] using this
   rw [← b,List.getElem?_take,if_pos hi2,List.getElem?_drop] at hi
   obtain ⟨ad',hA',h3⟩:=h2 _ u hi
   rw [hA] at hA';injection hA' with hA';subst hA'
   exact h3
theorem nw60 {w:World} {base:Nat} {ok:Nat→Prop} {v:Value} {l:List S60} (h:Kd.R k60 60 w base ok v l):w.ownsRow base (RowT.ty (Rw.e60 l)) (Tryz.prog.cellsOf (RowT.ty (Rw.e60 l))) v (RowT.len (Rw.e60 l)) (flat (Rw.e60 l)):=by
 obtain ⟨inner,ho,hr⟩:=h.2
 obtain rfl:=(A0b (f:=n60) (size:=k60.sz) (Q:=k60.M w base _) (fun x c=>C6x) (fun _=>rfl)).1 hr
 rw [show Tryz.prog.cellsOf (RowT.ty (Rw.e60 l))=k60.sz from (by kernel_rfl:Tryz.prog.cellsOf 60=8)]
 exact ho
theorem ro60 {g:Nat→Value} {w:World} {b i:Nat} {l:List S60}:S3 Tryz.prog g w b i (.rows 0 (Rw.e60 l))↔∃ A c,g i = .slice A l.length c∧l.length≤c∧Kd.C k60 w A l.length l:=by
 have h:=fun A=>X7 (size:=k60.sz) (by decide) (fun x c=>C9d (w:=w) (x:=x) (cs:=c)) (fun _=>rfl) (w:=w) (A:=A) (ps:=l)
 constructor
 · rintro ⟨A,c,h1,h2,h3,h4⟩;exact ⟨A,c,h1,h2,(h A).2 ⟨h3,h4⟩⟩
 · rintro ⟨A,c,h1,h2,h3⟩;exact ⟨A,c,h1,h2,((h A).1 h3).1,((h A).1 h3).2⟩
theorem nw80 {w:World} {base:Nat} {ok:Nat→Prop} {v:Value} {l:List S80} (h:Kd.R k80 80 w base ok v l):w.ownsRow base (RowT.ty (Rw.e80 l)) (Tryz.prog.cellsOf (RowT.ty (Rw.e80 l))) v (RowT.len (Rw.e80 l)) (flat (Rw.e80 l)):=by
 obtain ⟨inner,ho,hr⟩:=h.2
 obtain rfl:=(A0b (f:=n80) (size:=k80.sz) (Q:=k80.M w base _) (fun x c=>C6w) (fun _=>rfl)).1 hr
 rw [show Tryz.prog.cellsOf (RowT.ty (Rw.e80 l))=k80.sz from (by kernel_rfl:Tryz.prog.cellsOf 80=2)]
 exact ho
theorem ro80 {g:Nat→Value} {w:World} {b i:Nat} {l:List S80}:S3 Tryz.prog g w b i (.rows 0 (Rw.e80 l))↔∃ A c,g i = .slice A l.length c∧l.length≤c∧Kd.C k80 w A l.length l:=by
 have h:=fun A=>X7 (size:=k80.sz) (by decide) (fun x c=>C9c (w:=w) (x:=x) (cs:=c)) (fun _=>rfl) (w:=w) (A:=A) (ps:=l)
 constructor
 · rintro ⟨A,c,h1,h2,h3,h4⟩;exact ⟨A,c,h1,h2,(h A).2 ⟨h3,h4⟩⟩
 · rintro ⟨A,c,h1,h2,h3⟩;exact ⟨A,c,h1,h2,((h A).1 h3).1,((h A).1 h3).2⟩
theorem nw84 {w:World} {base:Nat} {ok:Nat→Prop} {v:Value} {l:List S84} (h:Kd.R k84 84 w base ok v l):w.ownsRow base (RowT.ty (Rw.e84 l)) (Tryz.prog.cellsOf (RowT.ty (Rw.e84 l))) v (RowT.len (Rw.e84 l)) (flat (Rw.e84 l)):=by
 obtain ⟨inner,ho,hr⟩:=h.2
 obtain rfl:=(A0b (f:=n84) (size:=k84.sz) (Q:=k84.M w base _) (fun x c=>C6v) (fun _=>rfl)).1 hr
 rw [show Tryz.prog.cellsOf (RowT.ty (Rw.e84 l))=k84.sz from (by kernel_rfl:Tryz.prog.cellsOf 84=2)]
 exact ho
theorem ro84 {g:Nat→Value} {w:World} {b i:Nat} {l:List S84}:S3 Tryz.prog g w b i (.rows 0 (Rw.e84 l))↔∃ A c,g i = .slice A l.length c∧l.length≤c∧Kd.C k84 w A l.length l:=by
 have h:=fun A=>X7 (size:=k84.sz) (by decide) (fun x c=>C9b (w:=w) (x:=x) (cs:=c)) (fun _=>rfl) (w:=w) (A:=A) (ps:=l)
 constructor
 · rintro ⟨A,c,h1,h2,h3,h4⟩;exact ⟨A,c,h1,h2,(h A).2 ⟨h3,h4⟩⟩
 · rintro ⟨A,c,h1,h2,h3⟩;exact ⟨A,c,h1,h2,((h A).1 h3).1,((h A).1 h3).2⟩
theorem ro93 {g:Nat→Value} {w:World} {b i:Nat} {l:List S93}:S3 Tryz.prog g w b i (.rows 0 (Rw.e93 l))↔∃ A c,g i = .slice A l.length c∧l.length≤c∧Kd.C k93 w A l.length l:=by
 have h:=fun A=>X7 (size:=k93.sz) (by decide) (fun x c=>C9a (w:=w) (x:=x) (cs:=c)) (fun _=>rfl) (w:=w) (A:=A) (ps:=l)
 constructor
 · rintro ⟨A,c,h1,h2,h3,h4⟩;exact ⟨A,c,h1,h2,(h A).2 ⟨h3,h4⟩⟩
 · rintro ⟨A,c,h1,h2,h3⟩;exact ⟨A,c,h1,h2,((h A).1 h3).1,((h A).1 h3).2⟩
theorem D2q {g:Nat→Value} {w:World} {b i:Nat} {l:List S103}:S3 Tryz.prog g w b i (.rows 0 (Rw.e103 l))↔∃ A c,g i = .slice A l.length c∧l.length≤c∧Kd.C k103 w A l.length l:=by
 have h:=fun A=>X7 (size:=k103.sz) (by decide) (fun x c=>C7e (w:=w) (x:=x) (cs:=c)) (fun _=>rfl) (w:=w) (A:=A) (ps:=l)
 constructor
 · rintro ⟨A,c,h1,h2,h3,h4⟩;exact ⟨A,c,h1,h2,(h A).2 ⟨h3,h4⟩⟩
 · rintro ⟨A,c,h1,h2,h3⟩;exact ⟨A,c,h1,h2,((h A).1 h3).1,((h A).1 h3).2⟩
theorem D2p {g:Nat→Value} {w:World} {b i:Nat} {l:List S105}:S3 Tryz.prog g w b i (.rows 0 (Rw.e105 l))↔∃ A c,g i = .slice A l.length c∧l.length≤c∧Kd.C k105 w A l.length l:=by
 have h:=fun A=>X7 (size:=k105.sz) (by decide) (fun x c=>C7d (w:=w) (x:=x) (cs:=c)) (fun _=>rfl) (w:=w) (A:=A) (ps:=l)
 constructor
 · rintro ⟨A,c,h1,h2,h3,h4⟩;exact ⟨A,c,h1,h2,(h A).2 ⟨h3,h4⟩⟩
 · rintro ⟨A,c,h1,h2,h3⟩;exact ⟨A,c,h1,h2,((h A).1 h3).1,((h A).1 h3).2⟩
theorem C8z {w:World} {base:Nat} {ok:Nat→Prop} {v:Value} {l:List S106} (h:Kd.R k106 106 w base ok v l):w.ownsRow base (RowT.ty (Rw.e106 l)) (Tryz.prog.cellsOf (RowT.ty (Rw.e106 l))) v (RowT.len (Rw.e106 l)) (flat (Rw.e106 l)):=by
 obtain ⟨inner,ho,hr⟩:=h.2
 obtain rfl:=(A0b (f:=n106) (size:=k106.sz) (Q:=k106.M w base _) (fun x c=>C4c) (fun _=>rfl)).1 hr
 rw [show Tryz.prog.cellsOf (RowT.ty (Rw.e106 l))=k106.sz from (by kernel_rfl:Tryz.prog.cellsOf 106=3)]
 exact ho
theorem C3q {g:Nat→Value} {w:World} {b i:Nat} {l:List S106}:S3 Tryz.prog g w b i (.rows 0 (Rw.e106 l))↔∃ A c,g i = .slice A l.length c∧l.length≤c∧Kd.C k106 w A l.length l:=by
 have h:=fun A=>X7 (size:=k106.sz) (by decide) (fun x c=>C7c (w:=w) (x:=x) (cs:=c)) (fun _=>rfl) (w:=w) (A:=A) (ps:=l)
 constructor
 · rintro ⟨A,c,h1,h2,h3,h4⟩;exact ⟨A,c,h1,h2,(h A).2 ⟨h3,h4⟩⟩
 · rintro ⟨A,c,h1,h2,h3⟩;exact ⟨A,c,h1,h2,((h A).1 h3).1,((h A).1 h3).2⟩
theorem D2o {g:Nat→Value} {w:World} {b i:Nat} {l:List S108}:S3 Tryz.prog g w b i (.rows 0 (Rw.e108 l))↔∃ A c,g i = .slice A l.length c∧l.length≤c∧Kd.C k108 w A l.length l:=by
 have h:=fun A=>X7 (size:=k108.sz) (by decide) (fun x c=>C7b (w:=w) (x:=x) (cs:=c)) (fun _=>rfl) (w:=w) (A:=A) (ps:=l)
 constructor
 · rintro ⟨A,c,h1,h2,h3,h4⟩;exact ⟨A,c,h1,h2,(h A).2 ⟨h3,h4⟩⟩
 · rintro ⟨A,c,h1,h2,h3⟩;exact ⟨A,c,h1,h2,((h A).1 h3).1,((h A).1 h3).2⟩
theorem B8i {w:World} {base:Nat} {ok:Nat→Prop} {v:Value} {l:List S110} (h:Kd.R k110 110 w base ok v l):w.ownsRow base (RowT.ty (Rw.e110 l)) (Tryz.prog.cellsOf (RowT.ty (Rw.e110 l))) v (RowT.len (Rw.e110 l)) (flat (Rw.e110 l)):=by
 obtain ⟨inner,ho,hr⟩:=h.2
 obtain rfl:=(A0b (f:=n110) (size:=k110.sz) (Q:=k110.M w base _) (fun x c=>B5c) (fun _=>rfl)).1 hr
 rw [show Tryz.prog.cellsOf (RowT.ty (Rw.e110 l))=k110.sz from (by kernel_rfl:Tryz.prog.cellsOf 110=5)]
 exact ho
theorem B0a {g:Nat→Value} {w:World} {b i:Nat} {l:List S110}:S3 Tryz.prog g w b i (.rows 0 (Rw.e110 l))↔∃ A c,g i = .slice A l.length c∧l.length≤c∧Kd.C k110 w A l.length l:=by
 have h:=fun A=>X7 (size:=k110.sz) (by decide) (fun x c=>C7a (w:=w) (x:=x) (cs:=c)) (fun _=>rfl) (w:=w) (A:=A) (ps:=l)
 constructor
 · rintro ⟨A,c,h1,h2,h3,h4⟩;exact ⟨A,c,h1,h2,(h A).2 ⟨h3,h4⟩⟩
 · rintro ⟨A,c,h1,h2,h3⟩;exact ⟨A,c,h1,h2,((h A).1 h3).1,((h A).1 h3).2⟩
theorem D2n {g:Nat→Value} {w:World} {b i:Nat} {l:List S112}:S3 Tryz.prog g w b i (.rows 0 (Rw.e112 l))↔∃ A c,g i = .slice A l.length c∧l.length≤c∧Kd.C k112 w A l.length l:=by
 have h:=fun A=>X7 (size:=k112.sz) (by decide) (fun x c=>C6z (w:=w) (x:=x) (cs:=c)) (fun _=>rfl) (w:=w) (A:=A) (ps:=l)
 constructor
 · rintro ⟨A,c,h1,h2,h3,h4⟩;exact ⟨A,c,h1,h2,(h A).2 ⟨h3,h4⟩⟩
 · rintro ⟨A,c,h1,h2,h3⟩;exact ⟨A,c,h1,h2,((h A).1 h3).1,((h A).1 h3).2⟩
theorem D2m {g:Nat→Value} {w:World} {b i:Nat} {l:List S114}:S3 Tryz.prog g w b i (.rows 0 (Rw.e114 l))↔∃ A c,g i = .slice A l.length c∧l.length≤c∧Kd.C k114 w A l.length l:=by
 have h:=fun A=>X7 (size:=k114.sz) (by decide) (fun x c=>C6y (w:=w) (x:=x) (cs:=c)) (fun _=>rfl) (w:=w) (A:=A) (ps:=l)
 constructor
 · rintro ⟨A,c,h1,h2,h3,h4⟩;exact ⟨A,c,h1,h2,(h A).2 ⟨h3,h4⟩⟩
 · rintro ⟨A,c,h1,h2,h3⟩;exact ⟨A,c,h1,h2,((h A).1 h3).1,((h A).1 h3).2⟩
theorem mixed:Tryz.prog.follows .mixedOrders=true:=by kernel_rfl
end Go.Proofs.YtmfgajbkcnlkcaaGreat.AI
namespace Go.Proofs.YtmfgajbkcnlkcaaGreat.AI
set_option linter.all false
open Go Go.RowKit
theorem nil_ {α:Type _} {p:α→Prop}:∀ c∈([]:List α),p c:=fun _ h=>by cases h
theorem C0 {α:Type _} {p:α→Prop} {a:α} {l:List α} (h:p a) (t:∀ c∈l,p c):∀ c∈a::l,p c:=List.forall_mem_cons.2 ⟨h,t⟩
theorem B6z {X Z:Type} {p q:Prop} {i:Decidable p} {j:Decidable q} {a b:Option Z} {c:Option X} {f:X→Option Z} (e:q→p) (h:q→Lo a (c.bind f)):Lo (@ite _ p i a b) (Option.bind (@ite _ q j c none) f):=by
 by_cases t:q
 · rw [if_pos (e t),if_pos t];exact h t
 · rw [if_neg t];exact A2h
theorem lo_ {X Z:Type} {a:Option Z} {b:Option X} {f:X→Option Z} (h:Lo a (b.bind f):=by
 repeat' first
 | with_reducible exact A2h
 | with_reducible refine B5g (fun _ _=>?_)
 | with_reducible refine B1j (fun _=>?_)
 | with_reducible refine B0r (fun _=>?_) (fun _=>?_)
 | with_reducible refine B1e (by first | assumption | omega | (simp only [*,List.length_set];done)) ?_
 | with_reducible refine C7i ?_
 | with_reducible refine B4m ?_
 | with_reducible refine B9a ?_
 | with_reducible refine C4n (by omega) (fun _=>?_) (fun _=>?_)
 | with_reducible refine B6z (fun _=>by omega) (fun _=>?_)
 | rfl
 | simp only [Bool.decide_eq_true]
 | exact Lo.refl _
 | (refine Lo.eq ?_;simp only [Bool.decide_eq_true];done)
 | refine B0r (fun _=>?_) (fun _=>?_)):Lo a (b.bind f):=h
section
variable {R:Type} [RowT R] {P:Program}
abbrev sg (P:Program) (O:List (Cal R)) (cs:List (Cut R)) (fn:Func) (k:Nat) (p:List Bool) (st:St R):Option (Out R):=seg P O cs k (body fn) (kEnd P fn.results.toList) p st
theorem fn_d [RowL P R] {O:List (Cal R)} {cs:List (Cut R)} {f:FuncId} {fn:Func} {lent:Bool} {sem:Mean R} (hO:∀ c∈O,G8 P c) (hm:P.follows .mixedOrders=true) (hf:P.funcs[f]? = some fn)
 (hz:∀ c∈cs,∀ st,c.f 0 st=none) (hs:∀ c∈cs,∀ k st out,c.f (k+1) st=some out→sg P O cs fn k c.p st=some out)
 (h:∀ (k:Nat) (args:List V) (hp:List (Blk R)) (Z:Type) (K:Out R→Option Z) (z:Z),sem k args hp Z K=some z→∃ out,K out=some z∧enter P O cs k fn (body fn) args hp=some out)
 (hb:fn.body=some (body fn):=by kernel_rfl) (hn:(fn.name == "runtime.NumGoroutine")=false:=by kernel_rfl) (hi:fn.body.isNone=false:=by kernel_rfl):G8 P ⟨f,lent,sem⟩:=
 U1 ⟨fn,hf,hn,hi⟩ fun k args hp Z K z e=>by
  obtain ⟨out,h1,h2⟩:=h k args hp Z K z e
  exact ⟨out,h1,D5a hO hm hf hb hz (fun c hc k st out e=>.inl (hs c hc k st out e)) h2⟩
theorem ent {X Z:Type} {m:Option X} {o:X→Out R} {K:Out R→Option Z} {z:Z} {e:Option (Out R)} (h:(m.bind fun r=>K (o r))=some z) (L:Lo e (m.bind fun r=>some (o r))):∃ out,K out=some z∧e=some out:=by
 obtain ⟨r,hr,hK⟩:=Option.bind_eq_some_iff.1 h
 exact ⟨_,hK,L _ (by rw [hr];rfl)⟩
theorem A1x {c:Cal R} (hd:G8 P c) {k:Nat} {args:List V} {hp:List (Blk R)} {out:Out R} (h:c.sem k args hp _ some=some out):Good P c.f args hp out:=by
 obtain ⟨o,e,hg⟩:=hd.ok k args hp _ some out h
 cases e;exact hg
theorem B9w [RowL P R] {f:FuncId} {args:List V} {hp:List (Blk R)} {r:R} {ys:List W} (hro:∀ b∈hp,isRo b=true) (hys:∀ y∈ys,idsW y=[])
 (h:∀ w g,A0h P w g args hp→Calls P f (args.map (H7 g)).toArray w fun e w'=>∃ v,e = .returned (resC (upd g hp.length v) (.c (.rw hp.length)::ys))∧w'.ownsRow w.heap.size (RowT.ty r) (P.cellsOf (RowT.ty r)) v (RowT.len r) (flat r)∧Below w.heap.size w w') :
 Good P f args hp ⟨.c (.rw hp.length)::ys,hp++[.rows 2 r]⟩:=by
 intro w g hA
 refine (h w g hA).mono ?_
 rintro e w' ⟨v,rfl,hown,hb⟩
 obtain ⟨hone,hblk⟩:=B0l hown
 have hs:upd g hp.length v hp.length=v:=U0 ..
 have ho:∀ i,i<hp.length→upd g hp.length v i=g i:=fun i hi=>V3 g v (by omega)
 have cas:∀ (i:Nat) b,(hp++[.rows 2 r])[i]? = some b→(hp[i]? = some b∧i<hp.length∧∃ q,b = .rows 0 q)∨(i=hp.length∧b = .rows 2 r):=by
  intro i b hi
  rcases Nat.lt_or_ge i hp.length with q | q
  · rw [List.getElem?_append_left q] at hi;exact .inl ⟨hi,q,B3q (hro b (List.mem_of_getElem? hi))⟩
  · rw [List.getElem?_append_right q] at hi
    have:=L4 hi
    have e0:i-hp.length=0:=by simpa using this
    rw [e0] at hi;simp only [List.getElem?_cons_zero,Option.some.injEq] at hi
    exact .inr ⟨by omega,hi.symm⟩
 have old:∀ (i:Nat) b,hp[i]? = some b→S3 P (upd g hp.length v) w' w.heap.size i b:=fun i b hi=>by
  refine ((hA.blk i b hi).move fun n hn=>hb.block n ((hA.blk i b hi).lt hn)).name (ho i (L4 hi)) fun j hj=>ho j (hA.idB i b hi j hj)
 refine ⟨_,upd g hp.length v,rfl,rfl,ho,fun y hy id hid=>?_,fun i b hi j hj=>?_,fun i b hi=>?_,fun i b i' b' n hi hi' hne hm hn=>?_,fun i b hi=>⟨b,by rw [List.getElem?_append_left (L4 hi)];exact hi,S4.refl (hA.kind i b hi).dead⟩,fun i b hi hib=>?_,fun i hi=>?_,⟨hb.os,hb.tape,hb.output,hb.size,fun k hk _=>hb.block k hk⟩⟩
 · rcases List.mem_cons.1 hy with rfl | hy
   · simp only [idsW,idsC,List.mem_singleton] at hid;subst hid
     simp
   · rw [hys y hy] at hid;simp at hid
 · rcases cas i b hi with ⟨_,_,q,rfl⟩ | ⟨_,rfl⟩<;>simp [idsB] at hj
 · rcases cas i b hi with ⟨h1,_,_⟩ | ⟨rfl,rfl⟩
   · exact old i b h1
   · show w'.ownsRow (if 1=1 then w.heap.size else 0) _ _ (upd g hp.length v hp.length) _ _
     rw [hs,if_pos rfl];exact hown
 · rcases cas i b hi with ⟨_,_,q,rfl⟩ | ⟨rfl,rfl⟩
   · exact hm.elim
   · rcases cas i' b' hi' with ⟨h1,h2,q,rfl⟩ | ⟨rfl,_⟩
     · intro hn'
       have h3:=hblk n (by rw [← hs];exact hn)
       rw [HasB.name (ho i' h2)] at hn'
       have:=(hA.blk i' _ h1).lt hn'
       omega
     · exact absurd rfl hne
 · rcases cas i b hib with ⟨_,h2,_⟩ | ⟨rfl,rfl⟩
   · omega
   · exact ⟨⟨r,rfl⟩,fun n hn=>hblk n (by rw [← hs];exact hn)⟩
 · simp only [List.length_append,List.length_singleton] at hi
   rcases Nat.lt_or_ge i hp.length with q | q
   · rw [ho i q];exact hA.one i q
   · rw [show i=hp.length by omega,hs];exact hone
def Tk {Z:Type} (K:Out R→Option Z) (x:Option (Out R)) (y:Option Z):Prop:=∀ z,y=some z→∃ out,K out=some z∧x=some out
theorem Tk.leaf {Z:Type} {K:Out R→Option Z} {out:Out R}:Tk K (some out) (K out):=fun _ h=>⟨out,h,rfl⟩
theorem Tk.no {Z:Type} {K:Out R→Option Z} {x:Option (Out R)}:Tk K x none:=fun _ h=>by cases h
theorem Tk.ite {Z:Type} {K:Out R→Option Z} {p:Prop} {i:Decidable p} {a b:Option (Out R)} {c d:Option Z} (h:Tk K a c) (h':Tk K b d):Tk K (@ite _ p i a b) (@ite _ p i c d):=by
 by_cases t:p
 · rw [if_pos t,if_pos t];exact h
 · rw [if_neg t,if_neg t];exact h'
theorem Tk.bind {X Z:Type} {K:Out R→Option Z} {m:Option X} {f:X→Option (Out R)} {g:X→Option Z} (h:∀ r,Tk K (f r) (g r)):Tk K (m.bind f) (m.bind g):=by
 cases m with
 | none=>exact Tk.no
 | some r=>exact h r
theorem tkw_ {Z:Type} {K:Out R→Option Z} {x:Option (Out R)} {y:Option Z} (t:Tk K x y:=by
 repeat' first
 | with_reducible exact Tk.leaf
 | with_reducible exact Tk.no
 | with_reducible refine Tk.ite ?_ ?_
 | with_reducible refine Tk.bind (fun _=>?_)):Tk K x y:=t
theorem tk_ {Z:Type} {K:Out R→Option Z} {x e:Option (Out R)} {y:Option Z} {z:Z} (h:y=some z) (he:e=x) (t:Tk K x y):∃ out,K out=some z∧e=some out:=by
 rw [he];exact t z h
end
end Go.Proofs.YtmfgajbkcnlkcaaGreat.AI
namespace Go.Proofs.YtmfgajbkcnlkcaaGreat.AI
set_option linter.all false
open Go Go.RowKit
abbrev HH {R:Type} [RowT R] (P:Program) (O:List (Cal R)) (cs:List (Cut R)) (fn:Func) (p:List Bool) (C:Nat→St R→Option (Out R)):Prop:=∀ k st out,C (k+1) st=some out→sg P O cs fn k p st=some out
theorem C7x {Z:Type} {p:Prop} {i:Decidable p} {a b c:Option Z} (q:¬p) (h:Lo b c):Lo (@ite _ p i a b) c:=by rw [if_neg q];exact h
theorem B3j {X Z:Type} {p q:Prop} {i:Decidable p} {j:Decidable q} {a b:Option Z} {c:Option X} {f:X→Option Z} (e:¬q→p) (h:¬q→Lo a (c.bind f)):Lo (@ite _ p i a b) (Option.bind (@ite _ q j none c) f):=by
 by_cases t:q
 · rw [if_pos t];exact A2h
 · rw [if_pos (e t),if_neg t];exact h t
theorem C6h {X Y Z:Type} {x y:Y} {i:Decidable (x≠y)} {j:Decidable (x=y)} {a b:Option Z} {c:Option X} {f:X→Option Z} (h:¬x=y→Lo a (c.bind f)):Lo (@ite _ (x≠y) i a b) (Option.bind (@ite _ (x=y) j none c) f):=B3j (fun h=>h) h
theorem D2k:(2:Int) ^ min (Int.toNat 32) IntKind.u64.bits=4294967296:=by decide
theorem B7h {α:Type _} (l:List α) (m n:Nat) (h:l.length=m):(l.drop n).take (m-n)=l.drop n:=List.take_of_length_le (by simp [h])
theorem C4t {α X Z:Type} {l:List α} {i w:Int} {m N M:Nat} {F:List α→Option X} {f:X→Option Z} (hm:l.length=m) (hi:0≤i) (hM:N≤M) :
 Lo (if 0≤i then (if i≤(l.length:Int) then (if 0≤w then (if w≤(l.length:Int) then (if ([]:List α).length+i.toNat<M then (if (([]:List α)++(l.drop 0).take i.toNat).length+(l.length-w.toNat)<M then (F (([]:List α)++(l.drop 0).take i.toNat++(l.drop w.toNat).take (l.length-w.toNat))).bind f else none) else none) else none) else none) else none) else none)
  (Option.bind (Option.bind (some ([]:List α)) fun y0=>if i≤(m:Int) then (Option.bind (some (l.take i.toNat)) fun y1=>if y0.length+y1.length<N then (Option.bind (some (y0++y1)) fun y2=>if 0≤w then (if w≤(m:Int) then (Option.bind (some (l.drop w.toNat)) fun y3=>if y2.length+y3.length<N then F (y2++y3) else none) else none) else none) else none) else none) f):=by
 subst hm
 rw [List.drop_zero,B7h l _ _ rfl]
 simp only [Option.bind_some]
 by_cases h1:i≤(l.length:Int)
 · by_cases h2:([]:List α).length+(l.take i.toNat).length<N
   · by_cases h3:0≤w
     · by_cases h4:w≤(l.length:Int)
       · by_cases h5:(([]:List α)++l.take i.toNat).length+(l.drop w.toNat).length<N
         · simp only [h1,h2,h3,h4,h5,if_true,hi]
           simp only [List.length_append,List.length_take,List.length_drop,List.length_nil] at h2 h5 ⊢
           rw [if_pos (by omega),if_pos (by omega)]
           exact Lo.refl _
         · simp only [h1,h2,h3,h4,h5,if_true,if_false];exact A2h
       · simp only [h1,h2,h3,h4,if_true,if_false];exact A2h
     · simp only [h1,h2,h3,if_true,if_false];exact A2h
   · simp only [h1,h2,if_true,if_false];exact A2h
 · simp only [h1,if_false];exact A2h
theorem low_ {X Z:Type} {a:Option Z} {b:Option X} {f:X→Option Z} (h:Lo a (b.bind f):=by
 repeat' first
 | with_reducible exact A2h
 | with_reducible refine B1j (fun _=>?_)
 | with_reducible refine B0r (fun _=>?_) (fun _=>?_)
 | with_reducible refine B1e (by first | assumption | omega) ?_
 | with_reducible refine B4m ?_
 | rfl
 | exact Lo.refl _
 | refine B3j (fun h=>h) (fun _=>?_)):Lo a (b.bind f):=h
theorem B9x {R:Type} [RowT R] {P:Program} {f:FuncId} {r r':R} (ht:RowT.ty r=RowT.ty r')
 (h:∀ w v,w.ownsRow 0 (RowT.ty r) (P.cellsOf (RowT.ty r)) v (RowT.len r) (flat r)→Calls P f #[v] w fun e w'=>e = .returned (.tuple #[])∧w'.ownsRow 0 (RowT.ty r') (P.cellsOf (RowT.ty r')) v (RowT.len r') (flat r')∧w'.os=w.os∧w'.tape=w.tape∧w'.output=w.output∧w.heap.size≤w'.heap.size∧∀ k,k<w.heap.size→T9 v≠some k→w'.heap[k]? = w.heap[k]?) :
 Good P f [.w (.c (.rw 0))] [.rows 1 r] ⟨[],[.rows 1 r']⟩:=by
 intro w g hA
 have h0:=hA.blk 0 _ rfl
 refine (h w (g 0) h0).mono ?_
 rintro e w' ⟨rfl,hown,h1,h2,h3,h4,h5⟩
 have one:∀ {q:R} {i:Nat} {b:Blk R},[Blk.rows 1 q][i]? = some b→i=0∧b = .rows 1 q:=fun {q i b} hi=>by
  cases i with
  | zero=>exact ⟨rfl,(Option.some.inj hi).symm⟩
  | succ i=>simp at hi
 refine ⟨_,g,rfl,rfl,fun _ _=>rfl,fun y hy=>by simp at hy,fun i b hi j hj=>?_,fun i b hi=>?_,fun i b i' b' n hi hi' hne hm hn=>?_,fun i b hi=>?_,fun i b hi hib=>?_,fun i hi=>?_,⟨h1,h2,h3,h4,fun k hk hL=>h5 k hk fun hb=>hL ⟨0,_,rfl,trivial,hb⟩⟩⟩
 · obtain ⟨rfl,rfl⟩:=one hi;simp [idsB] at hj
 · obtain ⟨rfl,rfl⟩:=one hi;exact hown
 · obtain ⟨rfl,rfl⟩:=one hi;obtain ⟨rfl,_⟩:=one hi';exact absurd rfl hne
 · obtain ⟨rfl,rfl⟩:=one hi;exact ⟨_,rfl,rfl,ht⟩
 · obtain ⟨rfl,rfl⟩:=one hib;simp at hi
 · have e0:i=0:=by simpa using hi
   subst e0;exact hA.one 0 (by simp)
theorem lov_ {X Z:Type} {a:Option Z} {b:Option X} {f:X→Option Z} (h:Lo a (b.bind f):=by
 repeat' first
 | with_reducible exact A2h
 | with_reducible refine B5g (fun _ _=>?_)
 | with_reducible refine B1j (fun _=>?_)
 | with_reducible refine B0r (fun _=>?_) (fun _=>?_)
 | with_reducible refine B1e (by first | assumption | omega | (simp only [*,List.length_set];done) | omega) ?_
 | with_reducible refine C7i ?_
 | with_reducible refine B4m ?_
 | with_reducible refine B9a ?_
 | with_reducible refine C6h (fun _=>?_)
 | with_reducible refine B3j (fun _=>by omega) (fun _=>?_)
 | with_reducible refine C4n (by omega) (fun _=>?_) (fun _=>?_)
 | with_reducible refine B6z (fun _=>by omega) (fun _=>?_)
 | rfl
 | simp only [Bool.decide_eq_true]
 | exact Lo.refl _
 | (refine Lo.eq ?_;simp only [Bool.decide_eq_true];done)
 | refine B0r (fun _=>?_) (fun _=>?_)):Lo a (b.bind f):=h
theorem lon_ {X Z:Type} {a:Option Z} {b:Option X} {f:X→Option Z} (h:Lo a (b.bind f):=by
 repeat' first
 | with_reducible exact A2h
 | with_reducible refine B5g (fun _ _=>?_)
 | with_reducible refine B1j (fun _=>?_)
 | with_reducible refine B0r (fun _=>?_) (fun _=>?_)
 | with_reducible refine B1e (by first | assumption | omega | (simp only [*,List.length_set];done)) ?_
 | with_reducible refine C7x (by first | assumption | omega) ?_
 | with_reducible refine C7i ?_
 | with_reducible refine B4m ?_
 | with_reducible refine B9a ?_
 | with_reducible refine C4n (by omega) (fun _=>?_) (fun _=>?_)
 | with_reducible refine B6z (fun _=>by omega) (fun _=>?_)
 | (exfalso;omega)
 | rfl
 | simp only [Bool.decide_eq_true]
 | exact Lo.refl _
 | (refine Lo.eq ?_;simp only [Bool.decide_eq_true];done)
 | (refine Lo.eq ?_;simp only [Int.zero_sub,List.cons_append,List.nil_append];done)
 | refine B0r (fun _=>?_) (fun _=>?_)):Lo a (b.bind f):=h
end Go.Proofs.YtmfgajbkcnlkcaaGreat.AI
namespace Go.Proofs.YtmfgajbkcnlkcaaGreat.AI
open Go Go.RowKit Go.Proofs.YtmfgajbkcnlkcaaGreatW.PrintWords Go.Proofs.YtmfgajbkcnlkcaaGreat.P
set_option linter.unusedVariables false
set_option linter.all false
set_option maxRecDepth 100000
set_option maxHeartbeats 4000000
noncomputable section
def o23 (l0:List S103) (r:Int):Out Rw:=⟨[.c (.sc (.i .i64 r))],[.rows 0 (.e103 l0)]⟩
def Q23:Mean Rw:=fun k a h Z K=>match a,h with
 | [.w (.c (.rw 0)),.w (.c (.sc (.i .i64 a1)))],[.rows 0 (.e103 l0)]=>(U2.f l0 a1).bind fun r=>K (o23 l0 r)
 | _,_=>none
def q23:Cal Rw:=⟨23,false,Q23⟩
def O23:List (Cal Rw):=[]
def K23:List (Cut Rw):=[]
theorem d23:G8 Tryz.prog q23:=fn_d (O:=O23) (cs:=K23) nil_ mixed Tryz.func23 nil_ nil_ fun k a h Z K z e=>by
 unfold Q23 at e;split at e
 · rename_i a1 l0
   exact ent e (Lo.of (b:=(if RowKit.wrap64 (a1-(l0.length:Int))<0 then (some (o23 l0 (-1))) else (some (o23 l0 (RowKit.wrap64 (a1-(l0.length:Int))))))) (by kernel_rfl) (by unfold U2.f;exact lo_))
 · cases e
def o24 (l0:List S105) (r:Int):Out Rw:=⟨[.c (.sc (.i .i64 r))],[.rows 0 (.e105 l0)]⟩
def Q24:Mean Rw:=fun k a h Z K=>match a,h with
 | [.w (.c (.rw 0)),.w (.c (.sc (.i .i64 a1)))],[.rows 0 (.e105 l0)]=>(W0.f l0 a1).bind fun r=>K (o24 l0 r)
 | _,_=>none
def q24:Cal Rw:=⟨24,false,Q24⟩
def O24:List (Cal Rw):=[]
def K24:List (Cut Rw):=[]
theorem d24:G8 Tryz.prog q24:=fn_d (O:=O24) (cs:=K24) nil_ mixed Tryz.func24 nil_ nil_ fun k a h Z K z e=>by
 unfold Q24 at e;split at e
 · rename_i a1 l0
   exact ent e (Lo.of (b:=(if RowKit.wrap64 (a1-(l0.length:Int))<0 then (some (o24 l0 (-1))) else (some (o24 l0 (RowKit.wrap64 (a1-(l0.length:Int))))))) (by kernel_rfl) (by unfold W0.f;exact lo_))
 · cases e
def o25 (l0:List S108) (r:Int):Out Rw:=⟨[.c (.sc (.i .i64 r))],[.rows 0 (.e108 l0)]⟩
def Q25:Mean Rw:=fun k a h Z K=>match a,h with
 | [.w (.c (.rw 0)),.w (.c (.sc (.i .i64 a1)))],[.rows 0 (.e108 l0)]=>(Z0.f l0 a1).bind fun r=>K (o25 l0 r)
 | _,_=>none
def q25:Cal Rw:=⟨25,false,Q25⟩
def O25:List (Cal Rw):=[]
def K25:List (Cut Rw):=[]
theorem d25:G8 Tryz.prog q25:=fn_d (O:=O25) (cs:=K25) nil_ mixed Tryz.func25 nil_ nil_ fun k a h Z K z e=>by
 unfold Q25 at e;split at e
 · rename_i a1 l0
   exact ent e (Lo.of (b:=(if RowKit.wrap64 (a1-(l0.length:Int))<0 then (some (o25 l0 (-1))) else (some (o25 l0 (RowKit.wrap64 (a1-(l0.length:Int))))))) (by kernel_rfl) (by unfold Z0.f;exact lo_))
 · cases e
def o26 (l0:List S112) (r:Int):Out Rw:=⟨[.c (.sc (.i .i64 r))],[.rows 0 (.e112 l0)]⟩
def Q26:Mean Rw:=fun k a h Z K=>match a,h with
 | [.w (.c (.rw 0)),.w (.c (.sc (.i .i64 a1)))],[.rows 0 (.e112 l0)]=>(Y9.f l0 a1).bind fun r=>K (o26 l0 r)
 | _,_=>none
def q26:Cal Rw:=⟨26,false,Q26⟩
def O26:List (Cal Rw):=[]
def K26:List (Cut Rw):=[]
theorem d26:G8 Tryz.prog q26:=fn_d (O:=O26) (cs:=K26) nil_ mixed Tryz.func26 nil_ nil_ fun k a h Z K z e=>by
 unfold Q26 at e;split at e
 · rename_i a1 l0
   exact ent e (Lo.of (b:=(if RowKit.wrap64 (a1-(l0.length:Int))<0 then (some (o26 l0 (-1))) else (some (o26 l0 (RowKit.wrap64 (a1-(l0.length:Int))))))) (by kernel_rfl) (by unfold Y9.f;exact lo_))
 · cases e
def o27 (l0:List S114) (r:Int):Out Rw:=⟨[.c (.sc (.i .i64 r))],[.rows 0 (.e114 l0)]⟩
def Q27:Mean Rw:=fun k a h Z K=>match a,h with
 | [.w (.c (.rw 0)),.w (.c (.sc (.i .i64 a1)))],[.rows 0 (.e114 l0)]=>(V9.f l0 a1).bind fun r=>K (o27 l0 r)
 | _,_=>none
def q27:Cal Rw:=⟨27,false,Q27⟩
def O27:List (Cal Rw):=[]
def K27:List (Cut Rw):=[]
theorem d27:G8 Tryz.prog q27:=fn_d (O:=O27) (cs:=K27) nil_ mixed Tryz.func27 nil_ nil_ fun k a h Z K z e=>by
 unfold Q27 at e;split at e
 · rename_i a1 l0
   exact ent e (Lo.of (b:=(if RowKit.wrap64 (a1-(l0.length:Int))<0 then (some (o27 l0 (-1))) else (some (o27 l0 (RowKit.wrap64 (a1-(l0.length:Int))))))) (by kernel_rfl) (by unfold V9.f;exact lo_))
 · cases e
def o8 (l0_0:List S103) (l0_1:List S105) (l0_2:List S108) (l0_3:List S112) (l0_4:List S114) (r:Int):Out Rw:=⟨[.c (.sc (.i .i64 r))],[.rows 0 (.e103 l0_0),.rows 0 (.e105 l0_1),.rows 0 (.e108 l0_2),.rows 0 (.e112 l0_3),.rows 0 (.e114 l0_4)]⟩
def Q8:Mean Rw:=fun k a h Z K=>match a,h with
 | [.w (.ag [.rw 0,.rw 1,.rw 2,.rw 3,.rw 4,.sc (.i .i64 a0_5)]),.w (.c (.sc (.i .i64 a1)))],[.rows 0 (.e103 l0_0),.rows 0 (.e105 l0_1),.rows 0 (.e108 l0_2),.rows 0 (.e112 l0_3),.rows 0 (.e114 l0_4)]=>(V5.f l0_0 l0_1 l0_2 l0_3 l0_4 a0_5 a1).bind fun r=>K (o8 l0_0 l0_1 l0_2 l0_3 l0_4 r)
 | _,_=>none
def q8:Cal Rw:=⟨8,false,Q8⟩
def O8:List (Cal Rw):=[q23,q24,q25,q26,q27]
def K8:List (Cut Rw):=[]
theorem d8:G8 Tryz.prog q8:=fn_d (O:=O8) (cs:=K8) (C0 d23 (C0 d24 (C0 d25 (C0 d26 (C0 d27 nil_))))) mixed Tryz.func8 nil_ nil_ fun k a h Z K z e=>by
 unfold Q8 at e;split at e
 · rename_i a0_5 a1 l0_0 l0_1 l0_2 l0_3 l0_4
   exact ent e (Lo.of (b:=((U2.f l0_0 a1).bind fun r8=>(if r8<0 then (some (o8 l0_0 l0_1 l0_2 l0_3 l0_4 (-1))) else ((W0.f l0_1 r8).bind fun r9=>(if r9<0 then (some (o8 l0_0 l0_1 l0_2 l0_3 l0_4 (-1))) else ((Z0.f l0_2 r9).bind fun r10=>(if r10<0 then (some (o8 l0_0 l0_1 l0_2 l0_3 l0_4 (-1))) else ((Y9.f l0_3 r10).bind fun r11=>(if r11<0 then (some (o8 l0_0 l0_1 l0_2 l0_3 l0_4 (-1))) else ((V9.f l0_4 r11).bind fun r12=>(if r12<0 then (some (o8 l0_0 l0_1 l0_2 l0_3 l0_4 (-1))) else (some (o8 l0_0 l0_1 l0_2 l0_3 l0_4 r12))))))))))))) (by kernel_rfl) (by unfold V5.f;exact lo_))
 · cases e
def o84 (r:Int×Int):Out Rw:=⟨[.ag [.sc (.i .i64 r.1),.sc (.i .i64 r.2)]],[]⟩
def Q84:Mean Rw:=fun k a h Z K=>match a,h with
 | [.w (.ag [.sc (.i .i64 a0_0),.sc (.i .i64 a0_1)])],[]=>(X5.f a0_0 a0_1).bind fun r=>K (o84 r)
 | _,_=>none
def q84:Cal Rw:=⟨84,false,Q84⟩
def O84:List (Cal Rw):=[]
def K84:List (Cut Rw):=[]
theorem d84:G8 Tryz.prog q84:=fn_d (O:=O84) (cs:=K84) nil_ mixed Tryz.func84 nil_ nil_ fun k a h Z K z e=>by
 unfold Q84 at e;split at e
 · rename_i a0_0 a0_1
   exact ent e (Lo.of (b:=(some (o84 (a0_0,a0_1)))) (by kernel_rfl) (by unfold X5.f;exact lo_))
 · cases e
def o32 (l0:List S103) (r:(List (S80))):Out Rw:=⟨[.c (.rw 1)],[.rows 0 (.e103 l0),.rows 2 (.e80 r)]⟩
def Q32:Mean Rw:=fun k a h Z K=>match a,h with
 | [.w (.c (.rw 0))],[.rows 0 (.e103 l0)]=>(K3.f k l0).bind fun r=>K (o32 l0 r)
 | _,_=>none
def q32:Cal Rw:=⟨32,false,Q32⟩
def O32:List (Cal Rw):=[q84]
def C3a:Nat→St Rw→Option (Out Rw):=fun k st=>match st with
 | ⟨23,1,2,[(0,.w (.c (.rw 0))),(3,.w (.c (.rw 1))),(4,.w (.c (.sc (.i .i64 x4))))],[(0,.rows 0 (.e103 l0)),(1,.rows 2 (.e80 y1))]⟩=>(K3.l0 k l0 y1 x4).bind fun r=>some (o32 l0 r)
 | _=>none
def K32:List (Cut Rw):=[⟨[false,true,false,true,true],[0,3,4],C3a⟩]
theorem D4x:HH Tryz.prog O32 K32 Tryz.f32 [false,true,false,true,true] C3a:=fun k st out h=>by
 unfold C3a at h;split at h
 · rename_i x4 l0 y1
   exact Lo.of (b:=(if x4<(l0.length:Int) then (if 0≤x4 then (if x4<(l0.length:Int) then ((X5.f (A4l l0 x4).f0 (A4l l0 x4).f1).bind fun r4=>(if 0≤x4 then (if x4<(y1.length:Int) then ((some (y1.set x4.toNat (⟨r4.1,r4.2⟩:S80))).bind fun y5=>((K3.l0 k l0 y5 (RowKit.wrap64 (x4+1))).bind fun r=>some (o32 l0 r))) else none) else none)) else none) else none) else (some (o32 l0 y1)))) (by kernel_rfl) (by rw [K3.l0];exact lo_) _ h
 · cases h
theorem d32:G8 Tryz.prog q32:=fn_d (O:=O32) (cs:=K32) (C0 d84 nil_) mixed Tryz.func32 (C0 (fun st=>by show C3a 0 st=none;unfold C3a;split<;>rfl) nil_) (C0 D4x nil_) fun k a h Z K z e=>by
 unfold Q32 at e;split at e
 · rename_i l0
   exact ent e (Lo.of (b:=(if (l0.length:Int)=(l0.length:Int) then (if 0≤(l0.length:Int) then (if (l0.length:Int)<17592186044417 then ((K3.l0 k l0 (List.replicate ((l0.length:Int)).toNat z80) 0).bind fun r=>some (o32 l0 r)) else none) else none) else none)) (by kernel_rfl) (by unfold K3.f;exact lo_))
 · cases e
def o85 (r:Int×Int):Out Rw:=⟨[.ag [.sc (.i .i64 r.1),.sc (.i .i64 r.2)]],[]⟩
def Q85:Mean Rw:=fun k a h Z K=>match a,h with
 | [.w (.ag [.sc (.i .i64 a0_0),.sc (.i .i64 a0_1)])],[]=>(A0d.f a0_0 a0_1).bind fun r=>K (o85 r)
 | _,_=>none
def q85:Cal Rw:=⟨85,false,Q85⟩
def O85:List (Cal Rw):=[]
def K85:List (Cut Rw):=[]
theorem d85:G8 Tryz.prog q85:=fn_d (O:=O85) (cs:=K85) nil_ mixed Tryz.func85 nil_ nil_ fun k a h Z K z e=>by
 unfold Q85 at e;split at e
 · rename_i a0_0 a0_1
   exact ent e (Lo.of (b:=(some (o85 (a0_0,a0_1)))) (by kernel_rfl) (by unfold A0d.f;exact lo_))
 · cases e
def o33 (l0:List S105) (r:(List (S84))):Out Rw:=⟨[.c (.rw 1)],[.rows 0 (.e105 l0),.rows 2 (.e84 r)]⟩
def Q33:Mean Rw:=fun k a h Z K=>match a,h with
 | [.w (.c (.rw 0))],[.rows 0 (.e105 l0)]=>(M8.f k l0).bind fun r=>K (o33 l0 r)
 | _,_=>none
def q33:Cal Rw:=⟨33,false,Q33⟩
def O33:List (Cal Rw):=[q85]
def C2z:Nat→St Rw→Option (Out Rw):=fun k st=>match st with
 | ⟨23,1,2,[(0,.w (.c (.rw 0))),(3,.w (.c (.rw 1))),(4,.w (.c (.sc (.i .i64 x4))))],[(0,.rows 0 (.e105 l0)),(1,.rows 2 (.e84 y1))]⟩=>(M8.l0 k l0 y1 x4).bind fun r=>some (o33 l0 r)
 | _=>none
def K33:List (Cut Rw):=[⟨[false,true,false,true,true],[0,3,4],C2z⟩]
theorem D4w:HH Tryz.prog O33 K33 Tryz.f33 [false,true,false,true,true] C2z:=fun k st out h=>by
 unfold C2z at h;split at h
 · rename_i x4 l0 y1
   exact Lo.of (b:=(if x4<(l0.length:Int) then (if 0≤x4 then (if x4<(l0.length:Int) then ((A0d.f (A4k l0 x4).f0 (A4k l0 x4).f1).bind fun r4=>(if 0≤x4 then (if x4<(y1.length:Int) then ((some (y1.set x4.toNat (⟨r4.1,r4.2⟩:S84))).bind fun y5=>((M8.l0 k l0 y5 (RowKit.wrap64 (x4+1))).bind fun r=>some (o33 l0 r))) else none) else none)) else none) else none) else (some (o33 l0 y1)))) (by kernel_rfl) (by rw [M8.l0];exact lo_) _ h
 · cases h
theorem d33:G8 Tryz.prog q33:=fn_d (O:=O33) (cs:=K33) (C0 d85 nil_) mixed Tryz.func33 (C0 (fun st=>by show C2z 0 st=none;unfold C2z;split<;>rfl) nil_) (C0 D4w nil_) fun k a h Z K z e=>by
 unfold Q33 at e;split at e
 · rename_i l0
   exact ent e (Lo.of (b:=(if (l0.length:Int)=(l0.length:Int) then (if 0≤(l0.length:Int) then (if (l0.length:Int)<17592186044417 then ((M8.l0 k l0 (List.replicate ((l0.length:Int)).toNat z84) 0).bind fun r=>some (o33 l0 r)) else none) else none) else none)) (by kernel_rfl) (by unfold M8.f;exact lo_))
 · cases e
def o86 (r:Int×Int×Int):Out Rw:=⟨[.ag [.sc (.i .i64 r.1),.sc (.i .i64 r.2.1),.sc (.i .i64 r.2.2)]],[]⟩
def Q86:Mean Rw:=fun k a h Z K=>match a,h with
 | [.w (.ag [.sc (.i .i64 a0_0),.sc (.i .i64 a0_1),.sc (.i .i64 a0_2)])],[]=>(A1o.f a0_0 a0_1 a0_2).bind fun r=>K (o86 r)
 | _,_=>none
def q86:Cal Rw:=⟨86,false,Q86⟩
def O86:List (Cal Rw):=[]
def K86:List (Cut Rw):=[]
theorem d86:G8 Tryz.prog q86:=fn_d (O:=O86) (cs:=K86) nil_ mixed Tryz.func86 nil_ nil_ fun k a h Z K z e=>by
 unfold Q86 at e;split at e
 · rename_i a0_0 a0_1 a0_2
   exact ent e (Lo.of (b:=(some (o86 (a0_0,a0_1,a0_2)))) (by kernel_rfl) (by unfold A1o.f;exact lo_))
 · cases e
def o34 (l0:List S108) (r:(List (S106))):Out Rw:=⟨[.c (.rw 1)],[.rows 0 (.e108 l0),.rows 2 (.e106 r)]⟩
def Q34:Mean Rw:=fun k a h Z K=>match a,h with
 | [.w (.c (.rw 0))],[.rows 0 (.e108 l0)]=>(P2.f k l0).bind fun r=>K (o34 l0 r)
 | _,_=>none
def q34:Cal Rw:=⟨34,false,Q34⟩
def O34:List (Cal Rw):=[q86]
def C2y:Nat→St Rw→Option (Out Rw):=fun k st=>match st with
 | ⟨23,1,2,[(0,.w (.c (.rw 0))),(3,.w (.c (.rw 1))),(4,.w (.c (.sc (.i .i64 x4))))],[(0,.rows 0 (.e108 l0)),(1,.rows 2 (.e106 y1))]⟩=>(P2.l0 k l0 y1 x4).bind fun r=>some (o34 l0 r)
 | _=>none
def K34:List (Cut Rw):=[⟨[false,true,false,true,true],[0,3,4],C2y⟩]
theorem D4v:HH Tryz.prog O34 K34 Tryz.f34 [false,true,false,true,true] C2y:=fun k st out h=>by
 unfold C2y at h;split at h
 · rename_i x4 l0 y1
   exact Lo.of (b:=(if x4<(l0.length:Int) then (if 0≤x4 then (if x4<(l0.length:Int) then ((A1o.f (A2k l0 x4).f0 (A2k l0 x4).f1 (A2k l0 x4).f2).bind fun r4=>(if 0≤x4 then (if x4<(y1.length:Int) then ((some (y1.set x4.toNat (⟨r4.1,r4.2.1,r4.2.2⟩:S106))).bind fun y5=>((P2.l0 k l0 y5 (RowKit.wrap64 (x4+1))).bind fun r=>some (o34 l0 r))) else none) else none)) else none) else none) else (some (o34 l0 y1)))) (by kernel_rfl) (by rw [P2.l0];exact lo_) _ h
 · cases h
theorem d34:G8 Tryz.prog q34:=fn_d (O:=O34) (cs:=K34) (C0 d86 nil_) mixed Tryz.func34 (C0 (fun st=>by show C2y 0 st=none;unfold C2y;split<;>rfl) nil_) (C0 D4v nil_) fun k a h Z K z e=>by
 unfold Q34 at e;split at e
 · rename_i l0
   exact ent e (Lo.of (b:=(if (l0.length:Int)=(l0.length:Int) then (if 0≤(l0.length:Int) then (if (l0.length:Int)<11728124029611 then ((P2.l0 k l0 (List.replicate ((l0.length:Int)).toNat z106) 0).bind fun r=>some (o34 l0 r)) else none) else none) else none)) (by kernel_rfl) (by unfold P2.f;exact lo_))
 · cases e
def o87 (r:Int×Int×Int×Int×Int):Out Rw:=⟨[.ag [.sc (.i .i64 r.1),.sc (.i .i64 r.2.1),.sc (.i .i64 r.2.2.1),.sc (.i .i64 r.2.2.2.1),.sc (.i .i64 r.2.2.2.2)]],[]⟩
def Q87:Mean Rw:=fun k a h Z K=>match a,h with
 | [.w (.ag [.sc (.i .i64 a0_0),.sc (.i .i64 a0_1),.sc (.i .i64 a0_2),.sc (.i .i64 a0_3),.sc (.i .i64 a0_4)])],[]=>(A1n.f a0_0 a0_1 a0_2 a0_3 a0_4).bind fun r=>K (o87 r)
 | _,_=>none
def q87:Cal Rw:=⟨87,false,Q87⟩
def O87:List (Cal Rw):=[]
def K87:List (Cut Rw):=[]
theorem d87:G8 Tryz.prog q87:=fn_d (O:=O87) (cs:=K87) nil_ mixed Tryz.func87 nil_ nil_ fun k a h Z K z e=>by
 unfold Q87 at e;split at e
 · rename_i a0_0 a0_1 a0_2 a0_3 a0_4
   exact ent e (Lo.of (b:=(some (o87 (a0_0,a0_1,a0_2,a0_3,a0_4)))) (by kernel_rfl) (by unfold A1n.f;exact lo_))
 · cases e
def o35 (l0:List S112) (r:(List (S110))):Out Rw:=⟨[.c (.rw 1)],[.rows 0 (.e112 l0),.rows 2 (.e110 r)]⟩
def Q35:Mean Rw:=fun k a h Z K=>match a,h with
 | [.w (.c (.rw 0))],[.rows 0 (.e112 l0)]=>(P1.f k l0).bind fun r=>K (o35 l0 r)
 | _,_=>none
def q35:Cal Rw:=⟨35,false,Q35⟩
def O35:List (Cal Rw):=[q87]
def C2x:Nat→St Rw→Option (Out Rw):=fun k st=>match st with
 | ⟨23,1,2,[(0,.w (.c (.rw 0))),(3,.w (.c (.rw 1))),(4,.w (.c (.sc (.i .i64 x4))))],[(0,.rows 0 (.e112 l0)),(1,.rows 2 (.e110 y1))]⟩=>(P1.l0 k l0 y1 x4).bind fun r=>some (o35 l0 r)
 | _=>none
def K35:List (Cut Rw):=[⟨[false,true,false,true,true],[0,3,4],C2x⟩]
theorem D4u:HH Tryz.prog O35 K35 Tryz.f35 [false,true,false,true,true] C2x:=fun k st out h=>by
 unfold C2x at h;split at h
 · rename_i x4 l0 y1
   exact Lo.of (b:=(if x4<(l0.length:Int) then (if 0≤x4 then (if x4<(l0.length:Int) then ((A1n.f (A0i l0 x4).f0 (A0i l0 x4).f1 (A0i l0 x4).f2 (A0i l0 x4).f3 (A0i l0 x4).f4).bind fun r4=>(if 0≤x4 then (if x4<(y1.length:Int) then ((some (y1.set x4.toNat (⟨r4.1,r4.2.1,r4.2.2.1,r4.2.2.2.1,r4.2.2.2.2⟩:S110))).bind fun y5=>((P1.l0 k l0 y5 (RowKit.wrap64 (x4+1))).bind fun r=>some (o35 l0 r))) else none) else none)) else none) else none) else (some (o35 l0 y1)))) (by kernel_rfl) (by rw [P1.l0];exact lo_) _ h
 · cases h
theorem d35:G8 Tryz.prog q35:=fn_d (O:=O35) (cs:=K35) (C0 d87 nil_) mixed Tryz.func35 (C0 (fun st=>by show C2x 0 st=none;unfold C2x;split<;>rfl) nil_) (C0 D4u nil_) fun k a h Z K z e=>by
 unfold Q35 at e;split at e
 · rename_i l0
   exact ent e (Lo.of (b:=(if (l0.length:Int)=(l0.length:Int) then (if 0≤(l0.length:Int) then (if (l0.length:Int)<7036874417767 then ((P1.l0 k l0 (List.replicate ((l0.length:Int)).toNat z110) 0).bind fun r=>some (o35 l0 r)) else none) else none) else none)) (by kernel_rfl) (by unfold P1.f;exact lo_))
 · cases e
def o88 (r:Int×Int×Int×Int×Int×Int×Int×Int):Out Rw:=⟨[.ag [.sc (.i .i64 r.1),.sc (.i .i64 r.2.1),.sc (.i .i64 r.2.2.1),.sc (.i .i64 r.2.2.2.1),.sc (.i .i64 r.2.2.2.2.1),.sc (.i .i64 r.2.2.2.2.2.1),.sc (.i .i64 r.2.2.2.2.2.2.1),.sc (.i .i64 r.2.2.2.2.2.2.2)]],[]⟩
def Q88:Mean Rw:=fun k a h Z K=>match a,h with
 | [.w (.ag [.sc (.i .i64 a0_0),.sc (.i .i64 a0_1),.sc (.i .i64 a0_2),.sc (.i .i64 a0_3),.sc (.i .i64 a0_4),.sc (.i .i64 a0_5),.sc (.i .i64 a0_6),.sc (.i .i64 a0_7)])],[]=>(A0c.f a0_0 a0_1 a0_2 a0_3 a0_4 a0_5 a0_6 a0_7).bind fun r=>K (o88 r)
 | _,_=>none
def q88:Cal Rw:=⟨88,false,Q88⟩
def O88:List (Cal Rw):=[]
def K88:List (Cut Rw):=[]
theorem d88:G8 Tryz.prog q88:=fn_d (O:=O88) (cs:=K88) nil_ mixed Tryz.func88 nil_ nil_ fun k a h Z K z e=>by
 unfold Q88 at e;split at e
 · rename_i a0_0 a0_1 a0_2 a0_3 a0_4 a0_5 a0_6 a0_7
   exact ent e (Lo.of (b:=(some (o88 (a0_0,a0_1,a0_2,a0_3,a0_4,a0_5,a0_6,a0_7)))) (by kernel_rfl) (by unfold A0c.f;exact lo_))
 · cases e
def o36 (l0:List S114) (r:(List (S60))):Out Rw:=⟨[.c (.rw 1)],[.rows 0 (.e114 l0),.rows 2 (.e60 r)]⟩
def Q36:Mean Rw:=fun k a h Z K=>match a,h with
 | [.w (.c (.rw 0))],[.rows 0 (.e114 l0)]=>(M7.f k l0).bind fun r=>K (o36 l0 r)
 | _,_=>none
def q36:Cal Rw:=⟨36,false,Q36⟩
def O36:List (Cal Rw):=[q88]
def C2w:Nat→St Rw→Option (Out Rw):=fun k st=>match st with
 | ⟨23,1,2,[(0,.w (.c (.rw 0))),(3,.w (.c (.rw 1))),(4,.w (.c (.sc (.i .i64 x4))))],[(0,.rows 0 (.e114 l0)),(1,.rows 2 (.e60 y1))]⟩=>(M7.l0 k l0 y1 x4).bind fun r=>some (o36 l0 r)
 | _=>none
def K36:List (Cut Rw):=[⟨[false,true,false,true,true],[0,3,4],C2w⟩]
theorem D4t:HH Tryz.prog O36 K36 Tryz.f36 [false,true,false,true,true] C2w:=fun k st out h=>by
 unfold C2w at h;split at h
 · rename_i x4 l0 y1
   exact Lo.of (b:=(if x4<(l0.length:Int) then (if 0≤x4 then (if x4<(l0.length:Int) then ((A0c.f (V0 l0 x4).f0 (V0 l0 x4).f1 (V0 l0 x4).f2 (V0 l0 x4).f3 (V0 l0 x4).f4 (V0 l0 x4).f5 (V0 l0 x4).f6 (V0 l0 x4).f7).bind fun r4=>(if 0≤x4 then (if x4<(y1.length:Int) then ((some (y1.set x4.toNat (⟨r4.1,r4.2.1,r4.2.2.1,r4.2.2.2.1,r4.2.2.2.2.1,r4.2.2.2.2.2.1,r4.2.2.2.2.2.2.1,r4.2.2.2.2.2.2.2⟩:S60))).bind fun y5=>((M7.l0 k l0 y5 (RowKit.wrap64 (x4+1))).bind fun r=>some (o36 l0 r))) else none) else none)) else none) else none) else (some (o36 l0 y1)))) (by kernel_rfl) (by rw [M7.l0];exact lo_) _ h
 · cases h
theorem d36:G8 Tryz.prog q36:=fn_d (O:=O36) (cs:=K36) (C0 d88 nil_) mixed Tryz.func36 (C0 (fun st=>by show C2w 0 st=none;unfold C2w;split<;>rfl) nil_) (C0 D4t nil_) fun k a h Z K z e=>by
 unfold Q36 at e;split at e
 · rename_i l0
   exact ent e (Lo.of (b:=(if (l0.length:Int)=(l0.length:Int) then (if 0≤(l0.length:Int) then (if (l0.length:Int)<4398046511105 then ((M7.l0 k l0 (List.replicate ((l0.length:Int)).toNat z60) 0).bind fun r=>some (o36 l0 r)) else none) else none) else none)) (by kernel_rfl) (by unfold M7.f;exact lo_))
 · cases e
def o10 (l0_0:List S103) (l0_1:List S105) (l0_2:List S108) (l0_3:List S112) (l0_4:List S114) (r:(List (S80))×(List (S84))×(List (S106))×(List (S110))×(List (S60))×Int):Out Rw:=⟨[.ag [.rw 5,.rw 6,.rw 7,.rw 8,.rw 9,.sc (.i .i64 r.2.2.2.2.2)]],[.rows 0 (.e103 l0_0),.rows 0 (.e105 l0_1),.rows 0 (.e108 l0_2),.rows 0 (.e112 l0_3),.rows 0 (.e114 l0_4),.rows 2 (.e80 r.1),.rows 2 (.e84 r.2.1),.rows 2 (.e106 r.2.2.1),.rows 2 (.e110 r.2.2.2.1),.rows 2 (.e60 r.2.2.2.2.1)]⟩
def Q10:Mean Rw:=fun k a h Z K=>match a,h with
 | [.w (.ag [.rw 0,.rw 1,.rw 2,.rw 3,.rw 4,.sc (.i .i64 a0_5)])],[.rows 0 (.e103 l0_0),.rows 0 (.e105 l0_1),.rows 0 (.e108 l0_2),.rows 0 (.e112 l0_3),.rows 0 (.e114 l0_4)]=>(R5.f k l0_0 l0_1 l0_2 l0_3 l0_4 a0_5).bind fun r=>K (o10 l0_0 l0_1 l0_2 l0_3 l0_4 r)
 | _,_=>none
def q10:Cal Rw:=⟨10,false,Q10⟩
def O10:List (Cal Rw):=[q32,q33,q34,q35,q36]
def K10:List (Cut Rw):=[]
theorem d10:G8 Tryz.prog q10:=fn_d (O:=O10) (cs:=K10) (C0 d32 (C0 d33 (C0 d34 (C0 d35 (C0 d36 nil_))))) mixed Tryz.func10 nil_ nil_ fun k a h Z K z e=>by
 unfold Q10 at e;split at e
 · rename_i a0_5 l0_0 l0_1 l0_2 l0_3 l0_4
   exact ent e (Lo.of (b:=((K3.f k l0_0).bind fun r7=>((M8.f k l0_1).bind fun r8=>((P2.f k l0_2).bind fun r9=>((P1.f k l0_3).bind fun r10=>((M7.f k l0_4).bind fun r11=>(some (o10 l0_0 l0_1 l0_2 l0_3 l0_4 (r7,r8,r9,r10,r11,a0_5))))))))) (by kernel_rfl) (by unfold R5.f;exact lo_))
 · cases e
def o56 (r:Bool):Out Rw:=⟨[.c (.sc (.b r))],[]⟩
def Q56:Mean Rw:=fun k a h Z K=>match a,h with
 | [.w (.c (.sc (.i .i64 a0))),.w (.c (.sc (.i .i64 a1))),.w (.c (.sc (.i .i64 a2)))],[]=>(N9.f a0 a1 a2).bind fun r=>K (o56 r)
 | _,_=>none
def q56:Cal Rw:=⟨56,false,Q56⟩
def O56:List (Cal Rw):=[]
def K56:List (Cut Rw):=[]
theorem d56:G8 Tryz.prog q56:=fn_d (O:=O56) (cs:=K56) nil_ mixed Tryz.func56 nil_ nil_ fun k a h Z K z e=>by
 unfold Q56 at e;split at e
 · rename_i a0 a1 a2
   exact ent e (Lo.of (b:=(if a0≥a1 then (some (o56 (decide (a0≤a2)))) else (some (o56 false)))) (by kernel_rfl) (by unfold N9.f;exact lo_))
 · cases e
def o29 (r:Bool):Out Rw:=⟨[.c (.sc (.b r))],[]⟩
def Q29:Mean Rw:=fun k a h Z K=>match a,h with
 | [.w (.c (.sc (.i .i64 a0)))],[]=>(I3.f a0).bind fun r=>K (o29 r)
 | _,_=>none
def q29:Cal Rw:=⟨29,false,Q29⟩
def O29:List (Cal Rw):=[q56]
def K29:List (Cut Rw):=[]
theorem d29:G8 Tryz.prog q29:=fn_d (O:=O29) (cs:=K29) (C0 d56 nil_) mixed Tryz.func29 nil_ nil_ fun k a h Z K z e=>by
 unfold Q29 at e;split at e
 · rename_i a0
   exact ent e (Lo.of (b:=((N9.f a0 1 1000).bind fun r2=>(some (o29 r2)))) (by kernel_rfl) (by unfold I3.f;exact lo_))
 · cases e
def o76 (l0:List S80) (r:Bool):Out Rw:=⟨[.c (.sc (.b r))],[.rows 0 (.e80 l0)]⟩
def Q76:Mean Rw:=fun k a h Z K=>match a,h with
 | [.w (.c (.rw 0))],[.rows 0 (.e80 l0)]=>(G6.f k l0).bind fun r=>K (o76 l0 r)
 | _,_=>none
def q76:Cal Rw:=⟨76,false,Q76⟩
def O76:List (Cal Rw):=[q29,q56]
def C2a:Nat→St Rw→Option (Out Rw):=fun k st=>match st with
 | ⟨47,1,1,[(0,.w (.c (.rw 0))),(3,.w (.c (.sc (.i .i64 x3))))],[(0,.rows 0 (.e80 l0))]⟩=>(G6.l0 k l0 x3).bind fun r=>some (o76 l0 r)
 | _=>none
def K76:List (Cut Rw):=[⟨[false,true,false,true,true],[0,3],C2a⟩]
theorem D3x:HH Tryz.prog O76 K76 Tryz.f76 [false,true,false,true,true] C2a:=fun k st out h=>by
 unfold C2a at h;split at h
 · rename_i x3 l0
   exact Lo.of (b:=(if x3<(l0.length:Int) then (if 0≤x3 then (if x3<(l0.length:Int) then ((I3.f (M2 l0 x3).f0).bind fun r3=>(if r3=true then (if 0≤x3 then (if x3<(l0.length:Int) then ((N9.f (M2 l0 x3).f1 1 4).bind fun r4=>(if r4=true then (if x3>0 then (if 0≤RowKit.wrap64 (x3-1) then (if RowKit.wrap64 (x3-1)<(l0.length:Int) then (if 0≤x3 then (if x3<(l0.length:Int) then (if (M2 l0 (RowKit.wrap64 (x3-1))).f0≥(M2 l0 x3).f0 then (some (o76 l0 false)) else ((G6.l0 k l0 (RowKit.wrap64 (x3+1))).bind fun r=>some (o76 l0 r))) else none) else none) else none) else none) else ((G6.l0 k l0 (RowKit.wrap64 (x3+1))).bind fun r=>some (o76 l0 r))) else (some (o76 l0 false)))) else none) else none) else (some (o76 l0 false)))) else none) else none) else (some (o76 l0 true)))) (by kernel_rfl) (by rw [G6.l0];exact lo_) _ h
 · cases h
theorem d76:G8 Tryz.prog q76:=fn_d (O:=O76) (cs:=K76) (C0 d29 (C0 d56 nil_)) mixed Tryz.func76 (C0 (fun st=>by show C2a 0 st=none;unfold C2a;split<;>rfl) nil_) (C0 D3x nil_) fun k a h Z K z e=>by
 unfold Q76 at e;split at e
 · rename_i l0
   exact ent e (Lo.of (b:=(if (l0.length:Int)>20 then (some (o76 l0 false)) else ((G6.l0 k l0 0).bind fun r=>some (o76 l0 r)))) (by kernel_rfl) (by unfold G6.f;exact lo_))
 · cases e
def o77 (l0:List S84) (r:Bool):Out Rw:=⟨[.c (.sc (.b r))],[.rows 0 (.e84 l0)]⟩
def Q77:Mean Rw:=fun k a h Z K=>match a,h with
 | [.w (.c (.rw 0))],[.rows 0 (.e84 l0)]=>(H9.f k l0).bind fun r=>K (o77 l0 r)
 | _,_=>none
def q77:Cal Rw:=⟨77,false,Q77⟩
def O77:List (Cal Rw):=[q29,q56]
def C1z:Nat→St Rw→Option (Out Rw):=fun k st=>match st with
 | ⟨47,1,1,[(0,.w (.c (.rw 0))),(3,.w (.c (.sc (.i .i64 x3))))],[(0,.rows 0 (.e84 l0))]⟩=>(H9.l0 k l0 x3).bind fun r=>some (o77 l0 r)
 | _=>none
def K77:List (Cut Rw):=[⟨[false,true,false,true,true],[0,3],C1z⟩]
theorem D3w:HH Tryz.prog O77 K77 Tryz.f77 [false,true,false,true,true] C1z:=fun k st out h=>by
 unfold C1z at h;split at h
 · rename_i x3 l0
   exact Lo.of (b:=(if x3<(l0.length:Int) then (if 0≤x3 then (if x3<(l0.length:Int) then ((I3.f (M5 l0 x3).f0).bind fun r3=>(if r3=true then (if 0≤x3 then (if x3<(l0.length:Int) then ((N9.f (M5 l0 x3).f1 1 2).bind fun r4=>(if r4=true then (if x3>0 then (if 0≤RowKit.wrap64 (x3-1) then (if RowKit.wrap64 (x3-1)<(l0.length:Int) then (if 0≤x3 then (if x3<(l0.length:Int) then (if (M5 l0 (RowKit.wrap64 (x3-1))).f0≥(M5 l0 x3).f0 then (some (o77 l0 false)) else ((H9.l0 k l0 (RowKit.wrap64 (x3+1))).bind fun r=>some (o77 l0 r))) else none) else none) else none) else none) else ((H9.l0 k l0 (RowKit.wrap64 (x3+1))).bind fun r=>some (o77 l0 r))) else (some (o77 l0 false)))) else none) else none) else (some (o77 l0 false)))) else none) else none) else (some (o77 l0 true)))) (by kernel_rfl) (by rw [H9.l0];exact lo_) _ h
 · cases h
theorem d77:G8 Tryz.prog q77:=fn_d (O:=O77) (cs:=K77) (C0 d29 (C0 d56 nil_)) mixed Tryz.func77 (C0 (fun st=>by show C1z 0 st=none;unfold C1z;split<;>rfl) nil_) (C0 D3w nil_) fun k a h Z K z e=>by
 unfold Q77 at e;split at e
 · rename_i l0
   exact ent e (Lo.of (b:=(if (l0.length:Int)>8 then (some (o77 l0 false)) else ((H9.l0 k l0 0).bind fun r=>some (o77 l0 r)))) (by kernel_rfl) (by unfold H9.f;exact lo_))
 · cases e
def o122 (r:Bool):Out Rw:=⟨[.c (.sc (.b r))],[]⟩
def Q122:Mean Rw:=fun k a h Z K=>match a,h with
 | [.w (.c (.sc (.i .i64 a0)))],[]=>(M4.f a0).bind fun r=>K (o122 r)
 | _,_=>none
def q122:Cal Rw:=⟨122,false,Q122⟩
def O122:List (Cal Rw):=[q56]
def K122:List (Cut Rw):=[]
theorem d122:G8 Tryz.prog q122:=fn_d (O:=O122) (cs:=K122) (C0 d56 nil_) mixed Tryz.func122 nil_ nil_ fun k a h Z K z e=>by
 unfold Q122 at e;split at e
 · rename_i a0
   exact ent e (Lo.of (b:=((N9.f a0 (-1000000000000000) 1000000000000000).bind fun r2=>(some (o122 r2)))) (by kernel_rfl) (by unfold M4.f;exact lo_))
 · cases e
def o123 (r:Bool):Out Rw:=⟨[.c (.sc (.b r))],[]⟩
def Q123:Mean Rw:=fun k a h Z K=>match a,h with
 | [.w (.c (.sc (.i .i64 a0))),.w (.c (.sc (.i .i64 a1))),.w (.c (.sc (.i .i64 a2))),.w (.c (.sc (.i .i64 a3)))],[]=>(Q9.f a0 a1 a2 a3).bind fun r=>K (o123 r)
 | _,_=>none
def q123:Cal Rw:=⟨123,false,Q123⟩
def O123:List (Cal Rw):=[]
def K123:List (Cut Rw):=[]
theorem d123:G8 Tryz.prog q123:=fn_d (O:=O123) (cs:=K123) nil_ mixed Tryz.func123 nil_ nil_ fun k a h Z K z e=>by
 unfold Q123 at e;split at e
 · rename_i a0 a1 a2 a3
   exact ent e (Lo.of (b:=(if a0<a2 then (some (o123 true)) else (if a0=a2 then (some (o123 (decide (a1<a3)))) else (some (o123 false))))) (by kernel_rfl) (by unfold Q9.f;exact lo_))
 · cases e
def o78 (l0:List S106) (r:Bool):Out Rw:=⟨[.c (.sc (.b r))],[.rows 0 (.e106 l0)]⟩
def Q78:Mean Rw:=fun k a h Z K=>match a,h with
 | [.w (.c (.rw 0))],[.rows 0 (.e106 l0)]=>(I4.f k l0).bind fun r=>K (o78 l0 r)
 | _,_=>none
def q78:Cal Rw:=⟨78,false,Q78⟩
def O78:List (Cal Rw):=[q29,q122,q123]
def C1y:Nat→St Rw→Option (Out Rw):=fun k st=>match st with
 | ⟨63,1,1,[(0,.w (.c (.rw 0))),(3,.w (.c (.sc (.i .i64 x3))))],[(0,.rows 0 (.e106 l0))]⟩=>(I4.l0 k l0 x3).bind fun r=>some (o78 l0 r)
 | _=>none
def K78:List (Cut Rw):=[⟨[false,true,false,true,true],[0,3],C1y⟩]
theorem D3v:HH Tryz.prog O78 K78 Tryz.f78 [false,true,false,true,true] C1y:=fun k st out h=>by
 unfold C1y at h;split at h
 · rename_i x3 l0
   exact Lo.of (b:=(if x3<(l0.length:Int) then (if 0≤x3 then (if x3<(l0.length:Int) then ((I3.f (C8 l0 x3).f0).bind fun r3=>(if r3=true then ((I3.f (C8 l0 x3).f1).bind fun r4=>(if r4=true then ((M4.f (C8 l0 x3).f2).bind fun r5=>(if r5=true then (if (C8 l0 x3).f2=0 then (some (o78 l0 false)) else (if x3>0 then (if 0≤RowKit.wrap64 (x3-1) then (if RowKit.wrap64 (x3-1)<(l0.length:Int) then (if 0≤RowKit.wrap64 (x3-1) then (if RowKit.wrap64 (x3-1)<(l0.length:Int) then ((Q9.f (C8 l0 (RowKit.wrap64 (x3-1))).f0 (C8 l0 (RowKit.wrap64 (x3-1))).f1 (C8 l0 x3).f0 (C8 l0 x3).f1).bind fun r6=>(if r6=true then ((I4.l0 k l0 (RowKit.wrap64 (x3+1))).bind fun r=>some (o78 l0 r)) else (some (o78 l0 false)))) else none) else none) else none) else none) else ((I4.l0 k l0 (RowKit.wrap64 (x3+1))).bind fun r=>some (o78 l0 r)))) else (some (o78 l0 false)))) else (some (o78 l0 false)))) else (some (o78 l0 false)))) else none) else none) else (some (o78 l0 true)))) (by kernel_rfl) (by rw [I4.l0];exact lo_) _ h
 · cases h
theorem d78:G8 Tryz.prog q78:=fn_d (O:=O78) (cs:=K78) (C0 d29 (C0 d122 (C0 d123 nil_))) mixed Tryz.func78 (C0 (fun st=>by show C1y 0 st=none;unfold C1y;split<;>rfl) nil_) (C0 D3v nil_) fun k a h Z K z e=>by
 unfold Q78 at e;split at e
 · rename_i l0
   exact ent e (Lo.of (b:=(if (l0.length:Int)>160 then (some (o78 l0 false)) else ((I4.l0 k l0 0).bind fun r=>some (o78 l0 r)))) (by kernel_rfl) (by unfold I4.f;exact lo_))
 · cases e
def o66 (r:Bool):Out Rw:=⟨[.c (.sc (.b r))],[]⟩
def Q66:Mean Rw:=fun k a h Z K=>match a,h with
 | [.w (.c (.sc (.i .i64 a0))),.w (.c (.sc (.i .i64 a1)))],[]=>(J9.f a0 a1).bind fun r=>K (o66 r)
 | _,_=>none
def q66:Cal Rw:=⟨66,false,Q66⟩
def O66:List (Cal Rw):=[q56]
def K66:List (Cut Rw):=[]
theorem d66:G8 Tryz.prog q66:=fn_d (O:=O66) (cs:=K66) (C0 d56 nil_) mixed Tryz.func66 nil_ nil_ fun k a h Z K z e=>by
 unfold Q66 at e;split at e
 · rename_i a0 a1
   exact ent e (Lo.of (b:=((N9.f a0 a1 1000000000000000).bind fun r3=>(some (o66 r3)))) (by kernel_rfl) (by unfold J9.f;exact lo_))
 · cases e
def o124 (r:Bool):Out Rw:=⟨[.c (.sc (.b r))],[]⟩
def Q124:Mean Rw:=fun k a h Z K=>match a,h with
 | [.w (.ag [.sc (.i .i64 a0_0),.sc (.i .i64 a0_1),.sc (.i .i64 a0_2),.sc (.i .i64 a0_3),.sc (.i .i64 a0_4)])],[]=>(U5.f a0_0 a0_1 a0_2 a0_3 a0_4).bind fun r=>K (o124 r)
 | _,_=>none
def q124:Cal Rw:=⟨124,false,Q124⟩
def O124:List (Cal Rw):=[q29,q56,q66]
def K124:List (Cut Rw):=[]
theorem d124:G8 Tryz.prog q124:=fn_d (O:=O124) (cs:=K124) (C0 d29 (C0 d56 (C0 d66 nil_))) mixed Tryz.func124 nil_ nil_ fun k a h Z K z e=>by
 unfold Q124 at e;split at e
 · rename_i a0_0 a0_1 a0_2 a0_3 a0_4
   exact ent e (Lo.of (b:=((I3.f a0_0).bind fun r6=>(if r6=true then ((I3.f a0_1).bind fun r7=>(if r7=true then ((N9.f a0_2 1 1000000000).bind fun r8=>(if r8=true then ((J9.f a0_3 1).bind fun r9=>(if r9=true then ((J9.f a0_4 0).bind fun r10=>(some (o124 r10))) else (some (o124 false)))) else (some (o124 false)))) else (some (o124 false)))) else (some (o124 false))))) (by kernel_rfl) (by unfold U5.f;exact lo_))
 · cases e
def o125 (r:Bool):Out Rw:=⟨[.c (.sc (.b r))],[]⟩
def Q125:Mean Rw:=fun k a h Z K=>match a,h with
 | [.w (.ag [.sc (.i .i64 a0_0),.sc (.i .i64 a0_1),.sc (.i .i64 a0_2),.sc (.i .i64 a0_3),.sc (.i .i64 a0_4)]),.w (.ag [.sc (.i .i64 a1_0),.sc (.i .i64 a1_1),.sc (.i .i64 a1_2),.sc (.i .i64 a1_3),.sc (.i .i64 a1_4)])],[]=>(T5.f a0_0 a0_1 a0_2 a0_3 a0_4 a1_0 a1_1 a1_2 a1_3 a1_4).bind fun r=>K (o125 r)
 | _,_=>none
def q125:Cal Rw:=⟨125,false,Q125⟩
def O125:List (Cal Rw):=[q123]
def K125:List (Cut Rw):=[]
theorem d125:G8 Tryz.prog q125:=fn_d (O:=O125) (cs:=K125) (C0 d123 nil_) mixed Tryz.func125 nil_ nil_ fun k a h Z K z e=>by
 unfold Q125 at e;split at e
 · rename_i a0_0 a0_1 a0_2 a0_3 a0_4 a1_0 a1_1 a1_2 a1_3 a1_4
   exact ent e (Lo.of (b:=((Q9.f a0_0 a0_1 a1_0 a1_1).bind fun r11=>(if r11=true then (some (o125 true)) else (if a0_0=a1_0 then (if a0_1=a1_1 then (some (o125 (decide (a0_2<a1_2)))) else (some (o125 false))) else (some (o125 false)))))) (by kernel_rfl) (by unfold T5.f;exact lo_))
 · cases e
end
end Go.Proofs.YtmfgajbkcnlkcaaGreat.AI
namespace Go.Proofs.YtmfgajbkcnlkcaaGreat.AI
open Go Go.RowKit Go.Proofs.YtmfgajbkcnlkcaaGreatW.PrintWords Go.Proofs.YtmfgajbkcnlkcaaGreat.P
set_option linter.unusedVariables false
set_option linter.all false
set_option maxRecDepth 100000
set_option maxHeartbeats 4000000
noncomputable section
def o171 (r:Bool):Out Rw:=⟨[.c (.sc (.b r))],[]⟩
def Q171:Mean Rw:=fun k a h Z K=>match a,h with
 | [.w (.ag [.sc (.i .i64 a0_0),.sc (.i .i64 a0_1),.sc (.i .i64 a0_2),.sc (.i .i64 a0_3),.sc (.i .i64 a0_4)]),.w (.c (.sc (.i .i64 a1))),.w (.c (.sc (.i .i64 a2)))],[]=>(W3.f a0_0 a0_1 a0_2 a0_3 a0_4 a1 a2).bind fun r=>K (o171 r)
 | _,_=>none
def q171:Cal Rw:=⟨171,false,Q171⟩
def O171:List (Cal Rw):=[]
def K171:List (Cut Rw):=[]
theorem d171:G8 Tryz.prog q171:=fn_d (O:=O171) (cs:=K171) nil_ mixed Tryz.func171 nil_ nil_ fun k a h Z K z e=>by
 unfold Q171 at e;split at e
 · rename_i a0_0 a0_1 a0_2 a0_3 a0_4 a1 a2
   exact ent e (Lo.of (b:=(if a0_0=a1 then (some (o171 (decide (a0_1=a2)))) else (some (o171 false)))) (by kernel_rfl) (by unfold W3.f;exact lo_))
 · cases e
def o131 (r:Int):Out Rw:=⟨[.c (.sc (.i .i64 r))],[]⟩
def Q131:Mean Rw:=fun k a h Z K=>match a,h with
 | [.w (.c (.sc (.i .i64 a0))),.w (.c (.sc (.i .i64 a1))),.w (.c (.sc (.i .i64 a2))),.w (.c (.sc (.i .i64 a3)))],[]=>(F8.f k a0 a1 a2 a3).bind fun r=>K (o131 r)
 | _,_=>none
def q131:Cal Rw:=⟨131,false,Q131⟩
def O131:List (Cal Rw):=[]
def B2p:Nat→St Rw→Option (Out Rw):=fun k st=>match st with
 | ⟨32,0,0,[(0,.w (.c (.sc (.i .i64 x0)))),(1,.w (.c (.sc (.i .i64 x1)))),(2,.w (.c (.sc (.i .i64 x2)))),(3,.w (.c (.sc (.i .i64 x3)))),(9,.w (.c (.sc (.b x9))))],[]⟩=>(F8.j0 k x0 x1 x2 x3 x9).bind fun r=>some (o131 r)
 | _=>none
def K131:List (Cut Rw):=[⟨[true,false,false,true],[0,1,2,3,9],B2p⟩]
theorem D0w:HH Tryz.prog O131 K131 Tryz.f131 [true,false,false,true] B2p:=fun k st out h=>by
 unfold B2p at h;split at h
 · rename_i x0 x1 x2 x3 x9
   exact Lo.of (b:=(if x9=true then (some (o131 (-1))) else (if x0=x2 then (if x1=x3 then (some (o131 0)) else (some (o131 1))) else (some (o131 1))))) (by kernel_rfl) (by rw [F8.j0];exact lo_) _ h
 · cases h
theorem d131:G8 Tryz.prog q131:=fn_d (O:=O131) (cs:=K131) nil_ mixed Tryz.func131 (C0 (fun st=>by show B2p 0 st=none;unfold B2p;split<;>rfl) nil_) (C0 D0w nil_) fun k a h Z K z e=>by
 unfold Q131 at e;split at e
 · rename_i a0 a1 a2 a3
   exact ent e (Lo.of (b:=(if a0<a2 then ((F8.j0 k a0 a1 a2 a3 true).bind fun r=>some (o131 r)) else (if a0=a2 then ((F8.j0 k a0 a1 a2 a3 (decide (a1<a3))).bind fun r=>some (o131 r)) else ((F8.j0 k a0 a1 a2 a3 false).bind fun r=>some (o131 r))))) (by kernel_rfl) (by unfold F8.f;exact lo_))
 · cases e
def o133 (r:Int):Out Rw:=⟨[.c (.sc (.i .i64 r))],[]⟩
def Q133:Mean Rw:=fun k a h Z K=>match a,h with
 | [.w (.ag [.sc (.i .i64 a0_0),.sc (.i .i64 a0_1),.sc (.i .i64 a0_2),.sc (.i .i64 a0_3),.sc (.i .i64 a0_4)]),.w (.ag [.sc (.i .i64 a1_0),.sc (.i .i64 a1_1),.sc (.i .i64 a1_2),.sc (.i .i64 a1_3),.sc (.i .i64 a1_4)])],[]=>(L3.f k a0_0 a0_1 a0_2 a0_3 a0_4 a1_0 a1_1 a1_2 a1_3 a1_4).bind fun r=>K (o133 r)
 | _,_=>none
def q133:Cal Rw:=⟨133,false,Q133⟩
def O133:List (Cal Rw):=[q131]
def K133:List (Cut Rw):=[]
theorem d133:G8 Tryz.prog q133:=fn_d (O:=O133) (cs:=K133) (C0 d131 nil_) mixed Tryz.func133 nil_ nil_ fun k a h Z K z e=>by
 unfold Q133 at e;split at e
 · rename_i a0_0 a0_1 a0_2 a0_3 a0_4 a1_0 a1_1 a1_2 a1_3 a1_4
   exact ent e (Lo.of (b:=((F8.f k a0_0 a0_1 a1_0 a1_1).bind fun r11=>(if r11=0 then (if a0_2<a1_2 then (some (o133 (-1))) else (if a0_2>a1_2 then (some (o133 1)) else (some (o133 0)))) else (some (o133 r11))))) (by kernel_rfl) (by unfold L3.f;exact lo_))
 · cases e
def o59 (r:Bool):Out Rw:=⟨[.c (.sc (.b r))],[]⟩
def Q59:Mean Rw:=fun k a h Z K=>match a,h with
 | [.w (.c (.sc (.i .i64 a0))),.w (.c (.sc (.i .i64 a1))),.w (.c (.sc (.i .i64 a2)))],[]=>(J7.f a0 a1 a2).bind fun r=>K (o59 r)
 | _,_=>none
def q59:Cal Rw:=⟨59,false,Q59⟩
def O59:List (Cal Rw):=[]
def K59:List (Cut Rw):=[]
theorem d59:G8 Tryz.prog q59:=fn_d (O:=O59) (cs:=K59) nil_ mixed Tryz.func59 nil_ nil_ fun k a h Z K z e=>by
 unfold Q59 at e;split at e
 · rename_i a0 a1 a2
   exact ent e (Lo.of (b:=(if a0≥a1 then (some (o59 (decide (a0≤a2)))) else (some (o59 false)))) (by kernel_rfl) (by unfold J7.f;exact lo_))
 · cases e
def o38 (r:Bool):Out Rw:=⟨[.c (.sc (.b r))],[]⟩
def Q38:Mean Rw:=fun k a h Z K=>match a,h with
 | [.w (.c (.sc (.i .i64 a0)))],[]=>(I5.f a0).bind fun r=>K (o38 r)
 | _,_=>none
def q38:Cal Rw:=⟨38,false,Q38⟩
def O38:List (Cal Rw):=[q59]
def K38:List (Cut Rw):=[]
theorem d38:G8 Tryz.prog q38:=fn_d (O:=O38) (cs:=K38) (C0 d59 nil_) mixed Tryz.func38 nil_ nil_ fun k a h Z K z e=>by
 unfold Q38 at e;split at e
 · rename_i a0
   exact ent e (Lo.of (b:=((J7.f a0 1 1000).bind fun r2=>(some (o38 r2)))) (by kernel_rfl) (by unfold I5.f;exact lo_))
 · cases e
def o132 (r:Bool):Out Rw:=⟨[.c (.sc (.b r))],[]⟩
def Q132:Mean Rw:=fun k a h Z K=>match a,h with
 | [.w (.ag [.sc (.i .i64 a0_0),.sc (.i .i64 a0_1),.sc (.i .i64 a0_2),.sc (.i .i64 a0_3),.sc (.i .i64 a0_4)])],[]=>(R9.f a0_0 a0_1 a0_2 a0_3 a0_4).bind fun r=>K (o132 r)
 | _,_=>none
def q132:Cal Rw:=⟨132,false,Q132⟩
def O132:List (Cal Rw):=[q38,q59]
def K132:List (Cut Rw):=[]
theorem d132:G8 Tryz.prog q132:=fn_d (O:=O132) (cs:=K132) (C0 d38 (C0 d59 nil_)) mixed Tryz.func132 nil_ nil_ fun k a h Z K z e=>by
 unfold Q132 at e;split at e
 · rename_i a0_0 a0_1 a0_2 a0_3 a0_4
   exact ent e (Lo.of (b:=((I5.f a0_0).bind fun r6=>(if r6=true then ((I5.f a0_1).bind fun r7=>(if r7=true then ((J7.f a0_2 1 1000000000).bind fun r8=>(if r8=true then ((J7.f a0_3 1 1000000000000000).bind fun r9=>(if r9=true then ((J7.f a0_4 0 1000000000000000).bind fun r10=>(some (o132 r10))) else (some (o132 false)))) else (some (o132 false)))) else (some (o132 false)))) else (some (o132 false))))) (by kernel_rfl) (by unfold R9.f;exact lo_))
 · cases e
def o136 (l0:List S110) (r:Int×Int):Out Rw:=⟨[.c (.sc (.i .i64 r.1)),.c (.sc (.i .i64 r.2))],[.rows 0 (.e110 l0)]⟩
def Q136:Mean Rw:=fun k a h Z K=>match a,h with
 | [.w (.c (.rw 0))],[.rows 0 (.e110 l0)]=>(H3.f k l0).bind fun r=>K (o136 l0 r)
 | _,_=>none
def q136:Cal Rw:=⟨136,false,Q136⟩
def O136:List (Cal Rw):=[]
def B2o:Nat→St Rw→Option (Out Rw):=fun k st=>match st with
 | ⟨25,1,1,[(4,.w (.c (.sc (.i .i64 x4)))),(5,.w (.c (.sc (.i .i64 x5)))),(8,.w (.c (.rw 0))),(9,.w (.c (.sc (.i .i64 x9)))),(10,.w (.c (.sc (.i .i64 x10))))],[(0,.rows 0 (.e110 l0))]⟩=>(H3.l0 k x4 x5 l0 x9 x10).bind fun r=>some (o136 l0 r)
 | _=>none
def K136:List (Cut Rw):=[⟨[false,true,false,true,true],[4,5,8,9,10],B2o⟩]
theorem D0v:HH Tryz.prog O136 K136 Tryz.f136 [false,true,false,true,true] B2o:=fun k st out h=>by
 unfold B2o at h;split at h
 · rename_i x4 x5 x9 x10 l0
   exact Lo.of (b:=(if x10<x9 then (if 0≤x10 then (if x10<(l0.length:Int) then ((H3.l0 k (RowKit.wrap64 (x4+(A4 l0 x10).f3)) (RowKit.wrap64 (x5+(A4 l0 x10).f4)) l0 x9 (RowKit.wrap64 (x10+1))).bind fun r=>some (o136 l0 r)) else none) else none) else (some (o136 l0 (x4,x5))))) (by kernel_rfl) (by rw [H3.l0];exact lo_) _ h
 · cases h
theorem d136:G8 Tryz.prog q136:=fn_d (O:=O136) (cs:=K136) nil_ mixed Tryz.func136 (C0 (fun st=>by show B2o 0 st=none;unfold B2o;split<;>rfl) nil_) (C0 D0v nil_) fun k a h Z K z e=>by
 unfold Q136 at e;split at e
 · rename_i l0
   exact ent e (Lo.of (b:=((H3.l0 k 0 0 l0 ((l0.length:Int)) 0).bind fun r=>some (o136 l0 r))) (by kernel_rfl) (by unfold H3.f;exact lo_))
 · cases e
def o108 (l0:List S80) (r:Int):Out Rw:=⟨[.c (.sc (.i .i64 r))],[.rows 0 (.e80 l0)]⟩
def Q108:Mean Rw:=fun k a h Z K=>match a,h with
 | [.w (.c (.rw 0)),.w (.c (.sc (.i .i64 a1)))],[.rows 0 (.e80 l0)]=>(D3.f k l0 a1).bind fun r=>K (o108 l0 r)
 | _,_=>none
def q108:Cal Rw:=⟨108,false,Q108⟩
def O108:List (Cal Rw):=[]
def B3i:Nat→St Rw→Option (Out Rw):=fun k st=>match st with
 | ⟨20,1,1,[(1,.w (.c (.sc (.i .i64 x1)))),(7,.w (.c (.rw 0))),(8,.w (.c (.sc (.i .i64 x8)))),(9,.w (.c (.sc (.i .i64 x9))))],[(0,.rows 0 (.e80 l0))]⟩=>(D3.l0 k x1 l0 x8 x9).bind fun r=>some (o108 l0 r)
 | _=>none
def K108:List (Cut Rw):=[⟨[false,true,false,true],[1,7,8,9],B3i⟩]
theorem D1p:HH Tryz.prog O108 K108 Tryz.f108 [false,true,false,true] B3i:=fun k st out h=>by
 unfold B3i at h;split at h
 · rename_i x1 x8 x9 l0
   exact Lo.of (b:=(if x9<x8 then (if 0≤x9 then (if x9<(l0.length:Int) then (if (M2 l0 x9).f0=x1 then (some (o108 l0 ((M2 l0 x9).f1))) else ((D3.l0 k x1 l0 x8 (RowKit.wrap64 (x9+1))).bind fun r=>some (o108 l0 r))) else none) else none) else (some (o108 l0 0)))) (by kernel_rfl) (by rw [D3.l0];exact lo_) _ h
 · cases h
theorem d108:G8 Tryz.prog q108:=fn_d (O:=O108) (cs:=K108) nil_ mixed Tryz.func108 (C0 (fun st=>by show B3i 0 st=none;unfold B3i;split<;>rfl) nil_) (C0 D1p nil_) fun k a h Z K z e=>by
 unfold Q108 at e;split at e
 · rename_i a1 l0
   exact ent e (Lo.of (b:=((D3.l0 k a1 l0 ((l0.length:Int)) 0).bind fun r=>some (o108 l0 r))) (by kernel_rfl) (by unfold D3.f;exact lo_))
 · cases e
def o110 (l0:List S84) (r:Int):Out Rw:=⟨[.c (.sc (.i .i64 r))],[.rows 0 (.e84 l0)]⟩
def Q110:Mean Rw:=fun k a h Z K=>match a,h with
 | [.w (.c (.rw 0)),.w (.c (.sc (.i .i64 a1)))],[.rows 0 (.e84 l0)]=>(E8.f k l0 a1).bind fun r=>K (o110 l0 r)
 | _,_=>none
def q110:Cal Rw:=⟨110,false,Q110⟩
def O110:List (Cal Rw):=[]
def B3h:Nat→St Rw→Option (Out Rw):=fun k st=>match st with
 | ⟨20,1,1,[(1,.w (.c (.sc (.i .i64 x1)))),(7,.w (.c (.rw 0))),(8,.w (.c (.sc (.i .i64 x8)))),(9,.w (.c (.sc (.i .i64 x9))))],[(0,.rows 0 (.e84 l0))]⟩=>(E8.l0 k x1 l0 x8 x9).bind fun r=>some (o110 l0 r)
 | _=>none
def K110:List (Cut Rw):=[⟨[false,true,false,true],[1,7,8,9],B3h⟩]
theorem D1o:HH Tryz.prog O110 K110 Tryz.f110 [false,true,false,true] B3h:=fun k st out h=>by
 unfold B3h at h;split at h
 · rename_i x1 x8 x9 l0
   exact Lo.of (b:=(if x9<x8 then (if 0≤x9 then (if x9<(l0.length:Int) then (if (M5 l0 x9).f0=x1 then (some (o110 l0 ((M5 l0 x9).f1))) else ((E8.l0 k x1 l0 x8 (RowKit.wrap64 (x9+1))).bind fun r=>some (o110 l0 r))) else none) else none) else (some (o110 l0 0)))) (by kernel_rfl) (by rw [E8.l0];exact lo_) _ h
 · cases h
theorem d110:G8 Tryz.prog q110:=fn_d (O:=O110) (cs:=K110) nil_ mixed Tryz.func110 (C0 (fun st=>by show B3h 0 st=none;unfold B3h;split<;>rfl) nil_) (C0 D1o nil_) fun k a h Z K z e=>by
 unfold Q110 at e;split at e
 · rename_i a1 l0
   exact ent e (Lo.of (b:=((E8.l0 k a1 l0 ((l0.length:Int)) 0).bind fun r=>some (o110 l0 r))) (by kernel_rfl) (by unfold E8.f;exact lo_))
 · cases e
def o172 (l0:List S106) (r:Int×Bool):Out Rw:=⟨[.c (.sc (.i .i64 r.1)),.c (.sc (.b r.2))],[.rows 0 (.e106 l0)]⟩
def Q172:Mean Rw:=fun k a h Z K=>match a,h with
 | [.w (.c (.rw 0)),.w (.c (.sc (.i .i64 a1))),.w (.c (.sc (.i .i64 a2)))],[.rows 0 (.e106 l0)]=>(M0.f k l0 a1 a2).bind fun r=>K (o172 l0 r)
 | _,_=>none
def q172:Cal Rw:=⟨172,false,Q172⟩
def O172:List (Cal Rw):=[q131]
def B1y:Nat→St Rw→Option (Out Rw):=fun k st=>match st with
 | ⟨33,1,1,[(0,.w (.c (.rw 0))),(1,.w (.c (.sc (.i .i64 x1)))),(2,.w (.c (.sc (.i .i64 x2)))),(11,.w (.c (.rw 0))),(12,.w (.c (.sc (.i .i64 x12)))),(13,.w (.c (.sc (.i .i64 x13))))],[(0,.rows 0 (.e106 l0))]⟩=>(M0.l0 k l0 x1 x2 l0 x12 x13).bind fun r=>some (o172 l0 r)
 | _=>none
def K172:List (Cut Rw):=[⟨[false,true,false,true],[0,1,2,11,12,13],B1y⟩]
theorem D0f:HH Tryz.prog O172 K172 Tryz.f172 [false,true,false,true] B1y:=fun k st out h=>by
 unfold B1y at h;split at h
 · rename_i x1 x2 x12 x13 l0
   exact Lo.of (b:=(if x13<x12 then (if 0≤x13 then (if x13<(l0.length:Int) then ((F8.f k (C8 l0 x13).f0 (C8 l0 x13).f1 x1 x2).bind fun r6=>(if r6≥0 then (some (o172 l0 (x13,decide (r6=0)))) else ((M0.l0 k l0 x1 x2 l0 x12 (RowKit.wrap64 (x13+1))).bind fun r=>some (o172 l0 r)))) else none) else none) else (some (o172 l0 ((l0.length:Int),false))))) (by kernel_rfl) (by rw [M0.l0];exact lo_) _ h
 · cases h
theorem d172:G8 Tryz.prog q172:=fn_d (O:=O172) (cs:=K172) (C0 d131 nil_) mixed Tryz.func172 (C0 (fun st=>by show B1y 0 st=none;unfold B1y;split<;>rfl) nil_) (C0 D0f nil_) fun k a h Z K z e=>by
 unfold Q172 at e;split at e
 · rename_i a1 a2 l0
   exact ent e (Lo.of (b:=((M0.l0 k l0 a1 a2 l0 ((l0.length:Int)) 0).bind fun r=>some (o172 l0 r))) (by kernel_rfl) (by unfold M0.f;exact lo_))
 · cases e
def o130 (r:Bool):Out Rw:=⟨[.c (.sc (.b r))],[]⟩
def Q130:Mean Rw:=fun k a h Z K=>match a,h with
 | [.w (.c (.sc (.i .i64 a0)))],[]=>(L7.f a0).bind fun r=>K (o130 r)
 | _,_=>none
def q130:Cal Rw:=⟨130,false,Q130⟩
def O130:List (Cal Rw):=[q59]
def K130:List (Cut Rw):=[]
theorem d130:G8 Tryz.prog q130:=fn_d (O:=O130) (cs:=K130) (C0 d59 nil_) mixed Tryz.func130 nil_ nil_ fun k a h Z K z e=>by
 unfold Q130 at e;split at e
 · rename_i a0
   exact ent e (Lo.of (b:=((J7.f a0 (-1000000000000000) 1000000000000000).bind fun r2=>(some (o130 r2)))) (by kernel_rfl) (by unfold L7.f;exact lo_))
 · cases e
def o176 (r:Bool):Out Rw:=⟨[.c (.sc (.b r))],[]⟩
def Q176:Mean Rw:=fun k a h Z K=>match a,h with
 | [.w (.ag [.sc (.i .i64 a0_0),.sc (.i .i64 a0_1),.sc (.i .i64 a0_2)])],[]=>(S0.f a0_0 a0_1 a0_2).bind fun r=>K (o176 r)
 | _,_=>none
def q176:Cal Rw:=⟨176,false,Q176⟩
def O176:List (Cal Rw):=[q38,q130]
def K176:List (Cut Rw):=[]
theorem d176:G8 Tryz.prog q176:=fn_d (O:=O176) (cs:=K176) (C0 d38 (C0 d130 nil_)) mixed Tryz.func176 nil_ nil_ fun k a h Z K z e=>by
 unfold Q176 at e;split at e
 · rename_i a0_0 a0_1 a0_2
   exact ent e (Lo.of (b:=((I5.f a0_0).bind fun r4=>(if r4=true then ((I5.f a0_1).bind fun r5=>(if r5=true then ((L7.f a0_2).bind fun r6=>(some (o176 (!decide (r6=true))))) else (some (o176 true)))) else (some (o176 true))))) (by kernel_rfl) (by unfold S0.f;exact lo_))
 · cases e
end
end Go.Proofs.YtmfgajbkcnlkcaaGreat.AI
namespace Go.Proofs.YtmfgajbkcnlkcaaGreat.AI
open Go Go.RowKit Go.Proofs.YtmfgajbkcnlkcaaGreatW.PrintWords Go.Proofs.YtmfgajbkcnlkcaaGreat.P
set_option linter.unusedVariables false
set_option linter.all false
set_option maxRecDepth 100000
set_option maxHeartbeats 4000000
noncomputable section
def o79 (l0:List S110) (r:Bool):Out Rw:=⟨[.c (.sc (.b r))],[.rows 0 (.e110 l0)]⟩
def Q79:Mean Rw:=fun k a h Z K=>match a,h with
 | [.w (.c (.rw 0))],[.rows 0 (.e110 l0)]=>(C7.f k l0).bind fun r=>K (o79 l0 r)
 | _,_=>none
def q79:Cal Rw:=⟨79,false,Q79⟩
def O79:List (Cal Rw):=[q124,q125,q122]
def C1x:Nat→St Rw→Option (Out Rw):=fun k st=>match st with
 | ⟨77,1,1,[(0,.w (.c (.rw 0))),(3,.w (.c (.sc (.i .i64 x3)))),(4,.w (.c (.sc (.i .i64 x4)))),(5,.w (.c (.sc (.i .i64 x5))))],[(0,.rows 0 (.e110 l0))]⟩=>(C7.l0 k l0 x3 x4 x5).bind fun r=>some (o79 l0 r)
 | _=>none
def C1w:Nat→St Rw→Option (Out Rw):=fun k st=>match st with
 | ⟨77,1,2,[(0,.w (.c (.rw 0))),(3,.w (.c (.sc (.i .i64 x3)))),(4,.w (.c (.sc (.i .i64 x4)))),(5,.w (.c (.sc (.i .i64 x5)))),(6,.pt 1 0),(36,.w (.c (.sc (.b x36))))],[(0,.rows 0 (.e110 l0)),(1,.box 110 [.sc (.i .i64 b1_0),.sc (.i .i64 b1_1),.sc (.i .i64 b1_2),.sc (.i .i64 b1_3),.sc (.i .i64 b1_4)])]⟩=>(C7.j1 k l0 x3 x4 x5 x36 b1_0 b1_1 b1_2 b1_3 b1_4).bind fun r=>some (o79 l0 r)
 | _=>none
def C1v:Nat→St Rw→Option (Out Rw):=fun k st=>match st with
 | ⟨77,1,2,[(0,.w (.c (.rw 0))),(3,.w (.c (.sc (.i .i64 x3)))),(4,.w (.c (.sc (.i .i64 x4)))),(5,.w (.c (.sc (.i .i64 x5)))),(6,.pt 1 0),(60,.w (.c (.sc (.b x60))))],[(0,.rows 0 (.e110 l0)),(1,.box 110 [.sc (.i .i64 b1_0),.sc (.i .i64 b1_1),.sc (.i .i64 b1_2),.sc (.i .i64 b1_3),.sc (.i .i64 b1_4)])]⟩=>(C7.j2 k l0 x3 x4 x5 x60 b1_0 b1_1 b1_2 b1_3 b1_4).bind fun r=>some (o79 l0 r)
 | _=>none
def C1u:Nat→St Rw→Option (Out Rw):=fun k st=>match st with
 | ⟨77,1,2,[(0,.w (.c (.rw 0))),(3,.w (.c (.sc (.i .i64 x3)))),(4,.w (.c (.sc (.i .i64 x4)))),(5,.w (.c (.sc (.i .i64 x5)))),(6,.pt 1 0)],[(0,.rows 0 (.e110 l0)),(1,.box 110 [.sc (.i .i64 b1_0),.sc (.i .i64 b1_1),.sc (.i .i64 b1_2),.sc (.i .i64 b1_3),.sc (.i .i64 b1_4)])]⟩=>(C7.j3 k l0 x3 x4 x5 b1_0 b1_1 b1_2 b1_3 b1_4).bind fun r=>some (o79 l0 r)
 | _=>none
def K79:List (Cut Rw):=[⟨[false,true,false,true,true,true],[0,3,4,5],C1x⟩,⟨[true,false,true,false,false,true,false,false,true,false,true,true,true],[0,3,4,5,6,36],C1w⟩,⟨[true,false,true,true,false,false,true,false,false,true,false,true,true,true],[0,3,4,5,6,60],C1v⟩,⟨[true,true,true,false,false,true,false,false,true,false,true,true,true],[0,3,4,5,6],C1u⟩]
theorem D3u:HH Tryz.prog O79 K79 Tryz.f79 [false,true,false,true,true,true] C1x:=fun k st out h=>by
 unfold C1x at h;split at h
 · rename_i x3 x4 x5 l0
   exact Lo.of (b:=(if x5<(l0.length:Int) then (if 0≤x5 then (if x5<(l0.length:Int) then ((U5.f (A4 l0 x5).f0 (A4 l0 x5).f1 (A4 l0 x5).f2 (A4 l0 x5).f3 (A4 l0 x5).f4).bind fun r5=>(if r5=true then (if x5>0 then (if 0≤RowKit.wrap64 (x5-1) then (if RowKit.wrap64 (x5-1)<(l0.length:Int) then ((T5.f (A4 l0 (RowKit.wrap64 (x5-1))).f0 (A4 l0 (RowKit.wrap64 (x5-1))).f1 (A4 l0 (RowKit.wrap64 (x5-1))).f2 (A4 l0 (RowKit.wrap64 (x5-1))).f3 (A4 l0 (RowKit.wrap64 (x5-1))).f4 (A4 l0 x5).f0 (A4 l0 x5).f1 (A4 l0 x5).f2 (A4 l0 x5).f3 (A4 l0 x5).f4).bind fun r6=>((C7.j1 k l0 x3 x4 x5 (!decide (r6=true)) ((A4 l0 x5).f0) ((A4 l0 x5).f1) ((A4 l0 x5).f2) ((A4 l0 x5).f3) ((A4 l0 x5).f4)).bind fun r=>some (o79 l0 r))) else none) else none) else ((C7.j1 k l0 x3 x4 x5 false ((A4 l0 x5).f0) ((A4 l0 x5).f1) ((A4 l0 x5).f2) ((A4 l0 x5).f3) ((A4 l0 x5).f4)).bind fun r=>some (o79 l0 r))) else ((C7.j1 k l0 x3 x4 x5 true ((A4 l0 x5).f0) ((A4 l0 x5).f1) ((A4 l0 x5).f2) ((A4 l0 x5).f3) ((A4 l0 x5).f4)).bind fun r=>some (o79 l0 r)))) else none) else none) else (some (o79 l0 true)))) (by kernel_rfl) (by rw [C7.l0];exact lo_) _ h
 · cases h
theorem D3t:HH Tryz.prog O79 K79 Tryz.f79 [true,false,true,false,false,true,false,false,true,false,true,true,true] C1w:=fun k st out h=>by
 unfold C1w at h;split at h
 · rename_i x3 x4 x5 x36 l0 b1_0 b1_1 b1_2 b1_3 b1_4
   exact Lo.of (b:=(if x36=true then (some (o79 l0 false)) else (if x5=0 then ((C7.j2 k l0 x3 x4 x5 true b1_0 b1_1 b1_2 b1_3 b1_4).bind fun r=>some (o79 l0 r)) else (if 0≤RowKit.wrap64 (x5-1) then (if RowKit.wrap64 (x5-1)<(l0.length:Int) then (if b1_0=(A4 l0 (RowKit.wrap64 (x5-1))).f0 then (if 0≤RowKit.wrap64 (x5-1) then (if RowKit.wrap64 (x5-1)<(l0.length:Int) then ((C7.j2 k l0 x3 x4 x5 (!decide (b1_1=(A4 l0 (RowKit.wrap64 (x5-1))).f1)) b1_0 b1_1 b1_2 b1_3 b1_4).bind fun r=>some (o79 l0 r)) else none) else none) else ((C7.j2 k l0 x3 x4 x5 true b1_0 b1_1 b1_2 b1_3 b1_4).bind fun r=>some (o79 l0 r))) else none) else none)))) (by kernel_rfl) (by rw [C7.j1];exact lo_) _ h
 · cases h
theorem D3s:HH Tryz.prog O79 K79 Tryz.f79 [true,false,true,true,false,false,true,false,false,true,false,true,true,true] C1v:=fun k st out h=>by
 unfold C1v at h;split at h
 · rename_i x3 x4 x5 x60 l0 b1_0 b1_1 b1_2 b1_3 b1_4
   exact Lo.of (b:=(if x60=true then ((C7.j3 k l0 0 0 x5 b1_0 b1_1 b1_2 b1_3 b1_4).bind fun r=>some (o79 l0 r)) else ((C7.j3 k l0 x3 x4 x5 b1_0 b1_1 b1_2 b1_3 b1_4).bind fun r=>some (o79 l0 r)))) (by kernel_rfl) (by rw [C7.j2];exact lo_) _ h
 · cases h
theorem D3r:HH Tryz.prog O79 K79 Tryz.f79 [true,true,true,false,false,true,false,false,true,false,true,true,true] C1u:=fun k st out h=>by
 unfold C1u at h;split at h
 · rename_i x3 x4 x5 l0 b1_0 b1_1 b1_2 b1_3 b1_4
   exact Lo.of (b:=((M4.f (RowKit.wrap64 (x3+b1_3))).bind fun r10=>(if r10=true then ((M4.f (RowKit.wrap64 (x4+b1_4))).bind fun r11=>(if r11=true then ((C7.l0 k l0 (RowKit.wrap64 (x3+b1_3)) (RowKit.wrap64 (x4+b1_4)) (RowKit.wrap64 (x5+1))).bind fun r=>some (o79 l0 r)) else (some (o79 l0 false)))) else (some (o79 l0 false))))) (by kernel_rfl) (by rw [C7.j3];exact lo_) _ h
 · cases h
theorem d79:G8 Tryz.prog q79:=fn_d (O:=O79) (cs:=K79) (C0 d124 (C0 d125 (C0 d122 nil_))) mixed Tryz.func79 (C0 (fun st=>by show C1x 0 st=none;unfold C1x;split<;>rfl) (C0 (fun st=>by show C1w 0 st=none;unfold C1w;split<;>rfl) (C0 (fun st=>by show C1v 0 st=none;unfold C1v;split<;>rfl) (C0 (fun st=>by show C1u 0 st=none;unfold C1u;split<;>rfl) nil_)))) (C0 D3u (C0 D3t (C0 D3s (C0 D3r nil_)))) fun k a h Z K z e=>by
 unfold Q79 at e;split at e
 · rename_i l0
   exact ent e (Lo.of (b:=(if (l0.length:Int)>120 then (some (o79 l0 false)) else ((C7.l0 k l0 0 0 0).bind fun r=>some (o79 l0 r)))) (by kernel_rfl) (by unfold C7.f;exact lo_))
 · cases e
def o80 (l0:List S60) (r:Bool):Out Rw:=⟨[.c (.sc (.b r))],[.rows 0 (.e60 l0)]⟩
def Q80:Mean Rw:=fun k a h Z K=>match a,h with
 | [.w (.c (.rw 0))],[.rows 0 (.e60 l0)]=>(J2.f k l0).bind fun r=>K (o80 l0 r)
 | _,_=>none
def q80:Cal Rw:=⟨80,false,Q80⟩
def O80:List (Cal Rw):=[q29,q66,q56]
def C1t:Nat→St Rw→Option (Out Rw):=fun k st=>match st with
 | ⟨86,1,1,[(0,.w (.c (.rw 0))),(3,.w (.c (.sc (.i .i64 x3))))],[(0,.rows 0 (.e60 l0))]⟩=>(J2.l0 k l0 x3).bind fun r=>some (o80 l0 r)
 | _=>none
def K80:List (Cut Rw):=[⟨[false,true,false,true,true],[0,3],C1t⟩]
theorem D3q:HH Tryz.prog O80 K80 Tryz.f80 [false,true,false,true,true] C1t:=fun k st out h=>by
 unfold C1t at h;split at h
 · rename_i x3 l0
   exact Lo.of (b:=(if x3<(l0.length:Int) then (if 0≤x3 then (if x3<(l0.length:Int) then ((I3.f (B7 l0 x3).f0).bind fun r3=>(if r3=true then ((I3.f (B7 l0 x3).f1).bind fun r4=>(if r4=true then ((I3.f (B7 l0 x3).f2).bind fun r5=>(if r5=true then ((I3.f (B7 l0 x3).f3).bind fun r6=>(if r6=true then ((I3.f (B7 l0 x3).f5).bind fun r7=>(if r7=true then (if (B7 l0 x3).f1=(B7 l0 x3).f2 then (some (o80 l0 false)) else ((J9.f (B7 l0 x3).f4 1).bind fun r8=>(if r8=true then ((J9.f (B7 l0 x3).f6 0).bind fun r9=>(if r9=true then ((N9.f (B7 l0 x3).f7 1 3).bind fun r10=>(if r10=true then (if x3>0 then (if 0≤RowKit.wrap64 (x3-1) then (if RowKit.wrap64 (x3-1)<(l0.length:Int) then (if (B7 l0 (RowKit.wrap64 (x3-1))).f0≥(B7 l0 x3).f0 then (some (o80 l0 false)) else ((J2.l0 k l0 (RowKit.wrap64 (x3+1))).bind fun r=>some (o80 l0 r))) else none) else none) else ((J2.l0 k l0 (RowKit.wrap64 (x3+1))).bind fun r=>some (o80 l0 r))) else (some (o80 l0 false)))) else (some (o80 l0 false)))) else (some (o80 l0 false))))) else (some (o80 l0 false)))) else (some (o80 l0 false)))) else (some (o80 l0 false)))) else (some (o80 l0 false)))) else (some (o80 l0 false)))) else none) else none) else (some (o80 l0 true)))) (by kernel_rfl) (by rw [J2.l0];exact lo_) _ h
 · cases h
theorem d80:G8 Tryz.prog q80:=fn_d (O:=O80) (cs:=K80) (C0 d29 (C0 d66 (C0 d56 nil_))) mixed Tryz.func80 (C0 (fun st=>by show C1t 0 st=none;unfold C1t;split<;>rfl) nil_) (C0 D3q nil_) fun k a h Z K z e=>by
 unfold Q80 at e;split at e
 · rename_i l0
   exact ent e (Lo.of (b:=(if (l0.length:Int)>30 then (some (o80 l0 false)) else ((J2.l0 k l0 0).bind fun r=>some (o80 l0 r)))) (by kernel_rfl) (by unfold J2.f;exact lo_))
 · cases e
def o57 (l0:List S80) (r:Int):Out Rw:=⟨[.c (.sc (.i .i64 r))],[.rows 0 (.e80 l0)]⟩
def Q57:Mean Rw:=fun k a h Z K=>match a,h with
 | [.w (.c (.rw 0)),.w (.c (.sc (.i .i64 a1)))],[.rows 0 (.e80 l0)]=>(C9.f k l0 a1).bind fun r=>K (o57 l0 r)
 | _,_=>none
def q57:Cal Rw:=⟨57,false,Q57⟩
def O57:List (Cal Rw):=[q76]
def C2f:Nat→St Rw→Option (Out Rw):=fun k st=>match st with
 | ⟨28,1,1,[(0,.w (.c (.rw 0))),(1,.w (.c (.sc (.i .i64 x1)))),(5,.w (.c (.sc (.i .i64 x5))))],[(0,.rows 0 (.e80 l0))]⟩=>(C9.l0 k l0 x1 x5).bind fun r=>some (o57 l0 r)
 | _=>none
def C2e:Nat→St Rw→Option (Out Rw):=fun k st=>match st with
 | ⟨28,1,1,[(0,.w (.c (.rw 0))),(1,.w (.c (.sc (.i .i64 x1)))),(5,.w (.c (.sc (.i .i64 x5)))),(13,.w (.c (.sc (.b x13))))],[(0,.rows 0 (.e80 l0))]⟩=>(C9.j1 k l0 x1 x5 x13).bind fun r=>some (o57 l0 r)
 | _=>none
def K57:List (Cut Rw):=[⟨[false,true,false,true],[0,1,5],C2f⟩,⟨[true,false,false,false,true,false,true],[0,1,5,13],C2e⟩]
theorem D4c:HH Tryz.prog O57 K57 Tryz.f57 [false,true,false,true] C2f:=fun k st out h=>by
 unfold C2f at h;split at h
 · rename_i x1 x5 l0
   exact Lo.of (b:=(if x5<(l0.length:Int) then ((G6.f k l0).bind fun r4=>((C9.j1 k l0 x1 x5 r4).bind fun r=>some (o57 l0 r))) else ((C9.j1 k l0 x1 x5 false).bind fun r=>some (o57 l0 r)))) (by kernel_rfl) (by rw [C9.l0];exact lo_) _ h
 · cases h
theorem D4b:HH Tryz.prog O57 K57 Tryz.f57 [true,false,false,false,true,false,true] C2e:=fun k st out h=>by
 unfold C2e at h;split at h
 · rename_i x1 x5 x13 l0
   exact Lo.of (b:=(if x13=true then (if 0≤x5 then (if x5<(l0.length:Int) then (if (M2 l0 x5).f0=x1 then (if 0≤x5 then (if x5<(l0.length:Int) then (some (o57 l0 ((M2 l0 x5).f1))) else none) else none) else ((C9.l0 k l0 x1 (RowKit.wrap64 (x5+1))).bind fun r=>some (o57 l0 r))) else none) else none) else (some (o57 l0 0)))) (by kernel_rfl) (by rw [C9.j1];exact lo_) _ h
 · cases h
theorem d57:G8 Tryz.prog q57:=fn_d (O:=O57) (cs:=K57) (C0 d76 nil_) mixed Tryz.func57 (C0 (fun st=>by show C2f 0 st=none;unfold C2f;split<;>rfl) (C0 (fun st=>by show C2e 0 st=none;unfold C2e;split<;>rfl) nil_)) (C0 D4c (C0 D4b nil_)) fun k a h Z K z e=>by
 unfold Q57 at e;split at e
 · rename_i a1 l0
   exact ent e (Lo.of (b:=((C9.l0 k l0 a1 0).bind fun r=>some (o57 l0 r))) (by kernel_rfl) (by unfold C9.f;exact lo_))
 · cases e
def o62 (l0:List S84) (r:Int):Out Rw:=⟨[.c (.sc (.i .i64 r))],[.rows 0 (.e84 l0)]⟩
def Q62:Mean Rw:=fun k a h Z K=>match a,h with
 | [.w (.c (.rw 0)),.w (.c (.sc (.i .i64 a1)))],[.rows 0 (.e84 l0)]=>(D6.f k l0 a1).bind fun r=>K (o62 l0 r)
 | _,_=>none
def q62:Cal Rw:=⟨62,false,Q62⟩
def O62:List (Cal Rw):=[q77]
def C2d:Nat→St Rw→Option (Out Rw):=fun k st=>match st with
 | ⟨28,1,1,[(0,.w (.c (.rw 0))),(1,.w (.c (.sc (.i .i64 x1)))),(5,.w (.c (.sc (.i .i64 x5))))],[(0,.rows 0 (.e84 l0))]⟩=>(D6.l0 k l0 x1 x5).bind fun r=>some (o62 l0 r)
 | _=>none
def C2c:Nat→St Rw→Option (Out Rw):=fun k st=>match st with
 | ⟨28,1,1,[(0,.w (.c (.rw 0))),(1,.w (.c (.sc (.i .i64 x1)))),(5,.w (.c (.sc (.i .i64 x5)))),(13,.w (.c (.sc (.b x13))))],[(0,.rows 0 (.e84 l0))]⟩=>(D6.j1 k l0 x1 x5 x13).bind fun r=>some (o62 l0 r)
 | _=>none
def K62:List (Cut Rw):=[⟨[false,true,false,true],[0,1,5],C2d⟩,⟨[true,false,false,false,true,false,true],[0,1,5,13],C2c⟩]
theorem D4a:HH Tryz.prog O62 K62 Tryz.f62 [false,true,false,true] C2d:=fun k st out h=>by
 unfold C2d at h;split at h
 · rename_i x1 x5 l0
   exact Lo.of (b:=(if x5<(l0.length:Int) then ((H9.f k l0).bind fun r4=>((D6.j1 k l0 x1 x5 r4).bind fun r=>some (o62 l0 r))) else ((D6.j1 k l0 x1 x5 false).bind fun r=>some (o62 l0 r)))) (by kernel_rfl) (by rw [D6.l0];exact lo_) _ h
 · cases h
theorem D3z:HH Tryz.prog O62 K62 Tryz.f62 [true,false,false,false,true,false,true] C2c:=fun k st out h=>by
 unfold C2c at h;split at h
 · rename_i x1 x5 x13 l0
   exact Lo.of (b:=(if x13=true then (if 0≤x5 then (if x5<(l0.length:Int) then (if (M5 l0 x5).f0=x1 then (if 0≤x5 then (if x5<(l0.length:Int) then (some (o62 l0 ((M5 l0 x5).f1))) else none) else none) else ((D6.l0 k l0 x1 (RowKit.wrap64 (x5+1))).bind fun r=>some (o62 l0 r))) else none) else none) else (some (o62 l0 0)))) (by kernel_rfl) (by rw [D6.j1];exact lo_) _ h
 · cases h
theorem d62:G8 Tryz.prog q62:=fn_d (O:=O62) (cs:=K62) (C0 d77 nil_) mixed Tryz.func62 (C0 (fun st=>by show C2d 0 st=none;unfold C2d;split<;>rfl) (C0 (fun st=>by show C2c 0 st=none;unfold C2c;split<;>rfl) nil_)) (C0 D4a (C0 D3z nil_)) fun k a h Z K z e=>by
 unfold Q62 at e;split at e
 · rename_i a1 l0
   exact ent e (Lo.of (b:=((D6.l0 k l0 a1 0).bind fun r=>some (o62 l0 r))) (by kernel_rfl) (by unfold D6.f;exact lo_))
 · cases e
def o167 (r:Int×Bool):Out Rw:=⟨[.c (.sc (.i .i64 r.1)),.c (.sc (.b r.2))],[]⟩
def Q167:Mean Rw:=fun k a h Z K=>match a,h with
 | [.w (.c (.sc (.i .i64 a0))),.w (.c (.sc (.b a1)))],[]=>(S9.f a0 a1).bind fun r=>K (o167 r)
 | _,_=>none
def q167:Cal Rw:=⟨167,false,Q167⟩
def O167:List (Cal Rw):=[q122]
def K167:List (Cut Rw):=[]
theorem d167:G8 Tryz.prog q167:=fn_d (O:=O167) (cs:=K167) (C0 d122 nil_) mixed Tryz.func167 nil_ nil_ fun k a h Z K z e=>by
 unfold Q167 at e;split at e
 · rename_i a0 a1
   exact ent e (Lo.of (b:=(if a1=true then ((M4.f a0).bind fun r3=>(if r3=true then (some (o167 (a0,true))) else (some (o167 (0,false))))) else (some (o167 (0,false))))) (by kernel_rfl) (by unfold S9.f;exact lo_))
 · cases e
def o126 (l0:List S106) (r:Int×Bool):Out Rw:=⟨[.c (.sc (.i .i64 r.1)),.c (.sc (.b r.2))],[.rows 0 (.e106 l0)]⟩
def Q126:Mean Rw:=fun k a h Z K=>match a,h with
 | [.w (.c (.rw 0)),.w (.c (.sc (.i .i64 a1)))],[.rows 0 (.e106 l0)]=>(G3.f k l0 a1).bind fun r=>K (o126 l0 r)
 | _,_=>none
def q126:Cal Rw:=⟨126,false,Q126⟩
def O126:List (Cal Rw):=[q78,q167]
def B2u:Nat→St Rw→Option (Out Rw):=fun k st=>match st with
 | ⟨38,1,1,[(0,.w (.c (.rw 0))),(1,.w (.c (.sc (.i .i64 x1)))),(6,.w (.c (.sc (.i .i64 x6)))),(7,.w (.c (.sc (.i .i64 x7))))],[(0,.rows 0 (.e106 l0))]⟩=>(G3.l0 k l0 x1 x6 x7).bind fun r=>some (o126 l0 r)
 | _=>none
def B2t:Nat→St Rw→Option (Out Rw):=fun k st=>match st with
 | ⟨38,1,1,[(0,.w (.c (.rw 0))),(1,.w (.c (.sc (.i .i64 x1)))),(6,.w (.c (.sc (.i .i64 x6)))),(7,.w (.c (.sc (.i .i64 x7)))),(15,.w (.c (.sc (.b x15))))],[(0,.rows 0 (.e106 l0))]⟩=>(G3.j1 k l0 x1 x6 x7 x15).bind fun r=>some (o126 l0 r)
 | _=>none
def K126:List (Cut Rw):=[⟨[false,true,false,true,true],[0,1,6,7],B2u⟩,⟨[true,false,false,false,true,false,true,true],[0,1,6,7,15],B2t⟩]
theorem D1b:HH Tryz.prog O126 K126 Tryz.f126 [false,true,false,true,true] B2u:=fun k st out h=>by
 unfold B2u at h;split at h
 · rename_i x1 x6 x7 l0
   exact Lo.of (b:=(if x7<(l0.length:Int) then ((I4.f k l0).bind fun r5=>((G3.j1 k l0 x1 x6 x7 r5).bind fun r=>some (o126 l0 r))) else ((G3.j1 k l0 x1 x6 x7 false).bind fun r=>some (o126 l0 r)))) (by kernel_rfl) (by rw [G3.l0];exact lo_) _ h
 · cases h
theorem D1a:HH Tryz.prog O126 K126 Tryz.f126 [true,false,false,false,true,false,true,true] B2t:=fun k st out h=>by
 unfold B2t at h;split at h
 · rename_i x1 x6 x7 x15 l0
   exact Lo.of (b:=(if x15=true then (if 0≤x7 then (if x7<(l0.length:Int) then (if (C8 l0 x7).f1=x1 then (if 0≤x7 then (if x7<(l0.length:Int) then ((G3.l0 k l0 x1 (RowKit.wrap64 (x6+(C8 l0 x7).f2)) (RowKit.wrap64 (x7+1))).bind fun r=>some (o126 l0 r)) else none) else none) else ((G3.l0 k l0 x1 x6 (RowKit.wrap64 (x7+1))).bind fun r=>some (o126 l0 r))) else none) else none) else ((I4.f k l0).bind fun r6=>((S9.f x6 r6).bind fun r7=>(some (o126 l0 (r7.1,r7.2))))))) (by kernel_rfl) (by rw [G3.j1];exact lo_) _ h
 · cases h
theorem d126:G8 Tryz.prog q126:=fn_d (O:=O126) (cs:=K126) (C0 d78 (C0 d167 nil_)) mixed Tryz.func126 (C0 (fun st=>by show B2u 0 st=none;unfold B2u;split<;>rfl) (C0 (fun st=>by show B2t 0 st=none;unfold B2t;split<;>rfl) nil_)) (C0 D1b (C0 D1a nil_)) fun k a h Z K z e=>by
 unfold Q126 at e;split at e
 · rename_i a1 l0
   exact ent e (Lo.of (b:=((G3.l0 k l0 a1 0 0).bind fun r=>some (o126 l0 r))) (by kernel_rfl) (by unfold G3.f;exact lo_))
 · cases e
def o81 (l0_0:List S80) (l0_1:List S84) (l0_2:List S106) (l0_3:List S110) (l0_4:List S60) (r:Bool):Out Rw:=⟨[.c (.sc (.b r))],[.rows 0 (.e80 l0_0),.rows 0 (.e84 l0_1),.rows 0 (.e106 l0_2),.rows 0 (.e110 l0_3),.rows 0 (.e60 l0_4)]⟩
def Q81:Mean Rw:=fun k a h Z K=>match a,h with
 | [.w (.ag [.rw 0,.rw 1,.rw 2,.rw 3,.rw 4,.sc (.i .i64 a0_5)])],[.rows 0 (.e80 l0_0),.rows 0 (.e84 l0_1),.rows 0 (.e106 l0_2),.rows 0 (.e110 l0_3),.rows 0 (.e60 l0_4)]=>(F6.f k l0_0 l0_1 l0_2 l0_3 l0_4 a0_5).bind fun r=>K (o81 l0_0 l0_1 l0_2 l0_3 l0_4 r)
 | _,_=>none
def q81:Cal Rw:=⟨81,false,Q81⟩
def O81:List (Cal Rw):=[q57,q62,q126]
def C1s:Nat→St Rw→Option (Out Rw):=fun k st=>match st with
 | ⟨58,5,6,[(1,.pt 5 0),(3,.w (.c (.sc (.i .i64 x3))))],[(0,.rows 0 (.e80 l0_0)),(1,.rows 0 (.e84 l0_1)),(2,.rows 0 (.e106 l0_2)),(3,.rows 0 (.e110 l0_3)),(4,.rows 0 (.e60 l0_4)),(5,.box 36 [.rw 0,.rw 1,.rw 2,.rw 3,.rw 4,.sc (.i .i64 b5_5)])]⟩=>(F6.l0 k x3 l0_0 l0_1 l0_2 l0_3 l0_4 b5_5).bind fun r=>some (o81 l0_0 l0_1 l0_2 l0_3 l0_4 r)
 | _=>none
def C1r:Nat→St Rw→Option (Out Rw):=fun k st=>match st with
 | ⟨58,5,7,[(1,.pt 5 0),(3,.w (.c (.sc (.i .i64 x3)))),(4,.pt 6 0),(43,.w (.c (.sc (.b x43))))],[(0,.rows 0 (.e80 l0_0)),(1,.rows 0 (.e84 l0_1)),(2,.rows 0 (.e106 l0_2)),(3,.rows 0 (.e110 l0_3)),(4,.rows 0 (.e60 l0_4)),(5,.box 36 [.rw 0,.rw 1,.rw 2,.rw 3,.rw 4,.sc (.i .i64 b5_5)]),(6,.box 106 [.sc (.i .i64 b6_0),.sc (.i .i64 b6_1),.sc (.i .i64 b6_2)])]⟩=>(F6.j1 k x3 x43 l0_0 l0_1 l0_2 l0_3 l0_4 b5_5 b6_0 b6_1 b6_2).bind fun r=>some (o81 l0_0 l0_1 l0_2 l0_3 l0_4 r)
 | _=>none
def K81:List (Cut Rw):=[⟨[false,true,false,true],[1,3],C1s⟩,⟨[true,false,true,true,false,false,true,false,false,true,false,true],[1,3,4,43],C1r⟩]
theorem D3p:HH Tryz.prog O81 K81 Tryz.f81 [false,true,false,true] C1s:=fun k st out h=>by
 unfold C1s at h;split at h
 · rename_i x3 l0_0 l0_1 l0_2 l0_3 l0_4 b5_5
   exact Lo.of (b:=(if x3<(l0_2.length:Int) then (if 0≤x3 then (if x3<(l0_2.length:Int) then ((C9.f k l0_0 (C8 l0_2 x3).f0).bind fun r8=>(if r8=0 then ((F6.j1 k x3 true l0_0 l0_1 l0_2 l0_3 l0_4 b5_5 ((C8 l0_2 x3).f0) ((C8 l0_2 x3).f1) ((C8 l0_2 x3).f2)).bind fun r=>some (o81 l0_0 l0_1 l0_2 l0_3 l0_4 r)) else ((D6.f k l0_1 (C8 l0_2 x3).f1).bind fun r9=>(if r9=0 then ((F6.j1 k x3 true l0_0 l0_1 l0_2 l0_3 l0_4 b5_5 ((C8 l0_2 x3).f0) ((C8 l0_2 x3).f1) ((C8 l0_2 x3).f2)).bind fun r=>some (o81 l0_0 l0_1 l0_2 l0_3 l0_4 r)) else (if r8=1 then ((F6.j1 k x3 (decide ((C8 l0_2 x3).f2<0)) l0_0 l0_1 l0_2 l0_3 l0_4 b5_5 ((C8 l0_2 x3).f0) ((C8 l0_2 x3).f1) ((C8 l0_2 x3).f2)).bind fun r=>some (o81 l0_0 l0_1 l0_2 l0_3 l0_4 r)) else ((F6.j1 k x3 false l0_0 l0_1 l0_2 l0_3 l0_4 b5_5 ((C8 l0_2 x3).f0) ((C8 l0_2 x3).f1) ((C8 l0_2 x3).f2)).bind fun r=>some (o81 l0_0 l0_1 l0_2 l0_3 l0_4 r))))))) else none) else none) else (some (o81 l0_0 l0_1 l0_2 l0_3 l0_4 true)))) (by kernel_rfl) (by rw [F6.l0];exact lo_) _ h
 · cases h
theorem D3o:HH Tryz.prog O81 K81 Tryz.f81 [true,false,true,true,false,false,true,false,false,true,false,true] C1r:=fun k st out h=>by
 unfold C1r at h;split at h
 · rename_i x3 x43 l0_0 l0_1 l0_2 l0_3 l0_4 b5_5 b6_0 b6_1 b6_2
   exact Lo.of (b:=(if x43=true then (some (o81 l0_0 l0_1 l0_2 l0_3 l0_4 false)) else ((G3.f k l0_2 b6_1).bind fun r12=>(if r12.2=true then (if r12.1=0 then ((F6.l0 k (RowKit.wrap64 (x3+1)) l0_0 l0_1 l0_2 l0_3 l0_4 b5_5).bind fun r=>some (o81 l0_0 l0_1 l0_2 l0_3 l0_4 r)) else (some (o81 l0_0 l0_1 l0_2 l0_3 l0_4 false))) else (some (o81 l0_0 l0_1 l0_2 l0_3 l0_4 false)))))) (by kernel_rfl) (by rw [F6.j1];exact lo_) _ h
 · cases h
theorem d81:G8 Tryz.prog q81:=fn_d (O:=O81) (cs:=K81) (C0 d57 (C0 d62 (C0 d126 nil_))) mixed Tryz.func81 (C0 (fun st=>by show C1s 0 st=none;unfold C1s;split<;>rfl) (C0 (fun st=>by show C1r 0 st=none;unfold C1r;split<;>rfl) nil_)) (C0 D3p (C0 D3o nil_)) fun k a h Z K z e=>by
 unfold Q81 at e;split at e
 · rename_i a0_5 l0_0 l0_1 l0_2 l0_3 l0_4
   exact ent e (Lo.of (b:=((F6.l0 k 0 l0_0 l0_1 l0_2 l0_3 l0_4 a0_5).bind fun r=>some (o81 l0_0 l0_1 l0_2 l0_3 l0_4 r))) (by kernel_rfl) (by unfold F6.f;exact lo_))
 · cases e
def o127 (l0:List S110) (r:(List (S110))×(List (S110))):Out Rw:=⟨[.c (.rw 1),.c (.rw 2)],[.rows 0 (.e110 l0),.rows 2 (.e110 r.1),.rows 2 (.e110 r.2)]⟩
def Q127:Mean Rw:=fun k a h Z K=>match a,h with
 | [.w (.c (.rw 0)),.w (.c (.sc (.i .i64 a1))),.w (.c (.sc (.i .i64 a2)))],[.rows 0 (.e110 l0)]=>(I6.f k l0 a1 a2).bind fun r=>K (o127 l0 r)
 | _,_=>none
def q127:Cal Rw:=⟨127,false,Q127⟩
def O127:List (Cal Rw):=[]
def B2s:Nat→St Rw→Option (Out Rw):=fun k st=>match st with
 | ⟨51,1,3,[(0,.w (.c (.rw 0))),(1,.w (.c (.sc (.i .i64 x1)))),(2,.w (.c (.sc (.i .i64 x2)))),(8,.w (.c (.rw 1))),(9,.w (.c (.rw 2))),(10,.w (.c (.sc (.i .i64 x10))))],[(0,.rows 0 (.e110 l0)),(1,.rows 2 (.e110 y1)),(2,.rows 2 (.e110 y2))]⟩=>(I6.l0 k l0 x1 x2 y1 y2 x10).bind fun r=>some (o127 l0 r)
 | _=>none
def K127:List (Cut Rw):=[⟨[false,true,false,true,true],[0,1,2,8,9,10],B2s⟩]
theorem D0z:HH Tryz.prog O127 K127 Tryz.f127 [false,true,false,true,true] B2s:=fun k st out h=>by
 unfold B2s at h;split at h
 · rename_i x1 x2 x10 l0 y1 y2
   exact Lo.of (b:=(if x10<(l0.length:Int) then (if 0≤x10 then (if x10<(l0.length:Int) then (if (A4 l0 x10).f0=x1 then (if 0≤x10 then (if x10<(l0.length:Int) then (if (A4 l0 x10).f1=x2 then (if 0≤x10 then (if x10<(l0.length:Int) then (if y1.length+1<3518437208884 then ((I6.l0 k l0 x1 x2 (y1++([(⟨(A4 l0 x10).f0,(A4 l0 x10).f1,(A4 l0 x10).f2,(A4 l0 x10).f3,(A4 l0 x10).f4⟩:S110)])) y2 (RowKit.wrap64 (x10+1))).bind fun r=>some (o127 l0 r)) else none) else none) else none) else (if 0≤x10 then (if x10<(l0.length:Int) then (if y2.length+1<3518437208884 then ((I6.l0 k l0 x1 x2 y1 (y2++([(⟨(A4 l0 x10).f0,(A4 l0 x10).f1,(A4 l0 x10).f2,(A4 l0 x10).f3,(A4 l0 x10).f4⟩:S110)])) (RowKit.wrap64 (x10+1))).bind fun r=>some (o127 l0 r)) else none) else none) else none)) else none) else none) else (if 0≤x10 then (if x10<(l0.length:Int) then (if y2.length+1<3518437208884 then ((I6.l0 k l0 x1 x2 y1 (y2++([(⟨(A4 l0 x10).f0,(A4 l0 x10).f1,(A4 l0 x10).f2,(A4 l0 x10).f3,(A4 l0 x10).f4⟩:S110)])) (RowKit.wrap64 (x10+1))).bind fun r=>some (o127 l0 r)) else none) else none) else none)) else none) else none) else (some (o127 l0 (y1,y2))))) (by kernel_rfl) (by rw [I6.l0];exact lo_) _ h
 · cases h
theorem d127:G8 Tryz.prog q127:=fn_d (O:=O127) (cs:=K127) nil_ mixed Tryz.func127 (C0 (fun st=>by show B2s 0 st=none;unfold B2s;split<;>rfl) nil_) (C0 D0z nil_) fun k a h Z K z e=>by
 unfold Q127 at e;split at e
 · rename_i a1 a2 l0
   exact ent e (Lo.of (b:=((I6.l0 k l0 a1 a2 ([]) ([]) 0).bind fun r=>some (o127 l0 r))) (by kernel_rfl) (by unfold I6.f;exact lo_))
 · cases e
def o128 (l0:List S110) (r:Int):Out Rw:=⟨[.c (.sc (.i .i64 r))],[.rows 0 (.e110 l0)]⟩
def Q128:Mean Rw:=fun k a h Z K=>match a,h with
 | [.w (.c (.rw 0))],[.rows 0 (.e110 l0)]=>(N7.f k l0).bind fun r=>K (o128 l0 r)
 | _,_=>none
def q128:Cal Rw:=⟨128,false,Q128⟩
def O128:List (Cal Rw):=[]
def B2r:Nat→St Rw→Option (Out Rw):=fun k st=>match st with
 | ⟨19,1,1,[(0,.w (.c (.rw 0))),(3,.w (.c (.sc (.i .i64 x3)))),(4,.w (.c (.sc (.i .i64 x4))))],[(0,.rows 0 (.e110 l0))]⟩=>(N7.l0 k l0 x3 x4).bind fun r=>some (o128 l0 r)
 | _=>none
def K128:List (Cut Rw):=[⟨[false,true,false,true,true],[0,3,4],B2r⟩]
theorem D0y:HH Tryz.prog O128 K128 Tryz.f128 [false,true,false,true,true] B2r:=fun k st out h=>by
 unfold B2r at h;split at h
 · rename_i x3 x4 l0
   exact Lo.of (b:=(if x4<(l0.length:Int) then (if 0≤x4 then (if x4<(l0.length:Int) then ((N7.l0 k l0 (RowKit.wrap64 (x3+(A4 l0 x4).f3)) (RowKit.wrap64 (x4+1))).bind fun r=>some (o128 l0 r)) else none) else none) else (some (o128 l0 x3)))) (by kernel_rfl) (by rw [N7.l0];exact lo_) _ h
 · cases h
theorem d128:G8 Tryz.prog q128:=fn_d (O:=O128) (cs:=K128) nil_ mixed Tryz.func128 (C0 (fun st=>by show B2r 0 st=none;unfold B2r;split<;>rfl) nil_) (C0 D0y nil_) fun k a h Z K z e=>by
 unfold Q128 at e;split at e
 · rename_i l0
   exact ent e (Lo.of (b:=((N7.l0 k l0 0 0).bind fun r=>some (o128 l0 r))) (by kernel_rfl) (by unfold N7.f;exact lo_))
 · cases e
def o129 (l0:List S106) (r:Int):Out Rw:=⟨[.c (.sc (.i .i64 r))],[.rows 0 (.e106 l0)]⟩
def Q129:Mean Rw:=fun k a h Z K=>match a,h with
 | [.w (.c (.rw 0)),.w (.c (.sc (.i .i64 a1))),.w (.c (.sc (.i .i64 a2)))],[.rows 0 (.e106 l0)]=>(N8.f k l0 a1 a2).bind fun r=>K (o129 l0 r)
 | _,_=>none
def q129:Cal Rw:=⟨129,false,Q129⟩
def O129:List (Cal Rw):=[]
def B2q:Nat→St Rw→Option (Out Rw):=fun k st=>match st with
 | ⟨35,1,1,[(0,.w (.c (.rw 0))),(1,.w (.c (.sc (.i .i64 x1)))),(2,.w (.c (.sc (.i .i64 x2)))),(7,.w (.c (.sc (.i .i64 x7))))],[(0,.rows 0 (.e106 l0))]⟩=>(N8.l0 k l0 x1 x2 x7).bind fun r=>some (o129 l0 r)
 | _=>none
def K129:List (Cut Rw):=[⟨[false,true,false,true],[0,1,2,7],B2q⟩]
theorem D0x:HH Tryz.prog O129 K129 Tryz.f129 [false,true,false,true] B2q:=fun k st out h=>by
 unfold B2q at h;split at h
 · rename_i x1 x2 x7 l0
   exact Lo.of (b:=(if x7<(l0.length:Int) then (if 0≤x7 then (if x7<(l0.length:Int) then (if (C8 l0 x7).f0=x1 then (if 0≤x7 then (if x7<(l0.length:Int) then (if (C8 l0 x7).f1=x2 then (if 0≤x7 then (if x7<(l0.length:Int) then (some (o129 l0 ((C8 l0 x7).f2))) else none) else none) else ((N8.l0 k l0 x1 x2 (RowKit.wrap64 (x7+1))).bind fun r=>some (o129 l0 r))) else none) else none) else ((N8.l0 k l0 x1 x2 (RowKit.wrap64 (x7+1))).bind fun r=>some (o129 l0 r))) else none) else none) else (some (o129 l0 0)))) (by kernel_rfl) (by rw [N8.l0];exact lo_) _ h
 · cases h
theorem d129:G8 Tryz.prog q129:=fn_d (O:=O129) (cs:=K129) nil_ mixed Tryz.func129 (C0 (fun st=>by show B2q 0 st=none;unfold B2q;split<;>rfl) nil_) (C0 D0x nil_) fun k a h Z K z e=>by
 unfold Q129 at e;split at e
 · rename_i a1 a2 l0
   exact ent e (Lo.of (b:=((N8.l0 k l0 a1 a2 0).bind fun r=>some (o129 l0 r))) (by kernel_rfl) (by unfold N8.f;exact lo_))
 · cases e
def o82 (l0_0:List S80) (l0_1:List S84) (l0_2:List S106) (l0_3:List S110) (l0_4:List S60) (r:Bool):Out Rw:=⟨[.c (.sc (.b r))],[.rows 0 (.e80 l0_0),.rows 0 (.e84 l0_1),.rows 0 (.e106 l0_2),.rows 0 (.e110 l0_3),.rows 0 (.e60 l0_4)]⟩
def Q82:Mean Rw:=fun k a h Z K=>match a,h with
 | [.w (.ag [.rw 0,.rw 1,.rw 2,.rw 3,.rw 4,.sc (.i .i64 a0_5)])],[.rows 0 (.e80 l0_0),.rows 0 (.e84 l0_1),.rows 0 (.e106 l0_2),.rows 0 (.e110 l0_3),.rows 0 (.e60 l0_4)]=>(D4.f k l0_0 l0_1 l0_2 l0_3 l0_4 a0_5).bind fun r=>K (o82 l0_0 l0_1 l0_2 l0_3 l0_4 r)
 | _,_=>none
def q82:Cal Rw:=⟨82,false,Q82⟩
def O82:List (Cal Rw):=[q57,q62,q127,q128,q129]
def C1q:Nat→St Rw→Option (Out Rw):=fun k st=>match st with
 | ⟨108,5,6,[(1,.pt 5 0),(3,.w (.c (.sc (.i .i64 x3))))],[(0,.rows 0 (.e80 l0_0)),(1,.rows 0 (.e84 l0_1)),(2,.rows 0 (.e106 l0_2)),(3,.rows 0 (.e110 l0_3)),(4,.rows 0 (.e60 l0_4)),(5,.box 36 [.rw 0,.rw 1,.rw 2,.rw 3,.rw 4,.sc (.i .i64 b5_5)])]⟩=>(D4.l0 k x3 l0_0 l0_1 l0_2 l0_3 l0_4 b5_5).bind fun r=>some (o82 l0_0 l0_1 l0_2 l0_3 l0_4 r)
 | _=>none
def C1p:Nat→St Rw→Option (Out Rw):=fun k st=>match st with
 | ⟨108,5,6,[(1,.pt 5 0),(5,.w (.c (.sc (.i .i64 x5))))],[(0,.rows 0 (.e80 l0_0)),(1,.rows 0 (.e84 l0_1)),(2,.rows 0 (.e106 l0_2)),(3,.rows 0 (.e110 l0_3)),(4,.rows 0 (.e60 l0_4)),(5,.box 36 [.rw 0,.rw 1,.rw 2,.rw 3,.rw 4,.sc (.i .i64 b5_5)])]⟩=>(D4.l1 k x5 l0_0 l0_1 l0_2 l0_3 l0_4 b5_5).bind fun r=>some (o82 l0_0 l0_1 l0_2 l0_3 l0_4 r)
 | _=>none
def C1o:Nat→St Rw→Option (Out Rw):=fun k st=>match st with
 | ⟨108,5,6,[(1,.pt 5 0),(5,.w (.c (.sc (.i .i64 x5)))),(6,.w (.c (.sc (.i .i64 x6))))],[(0,.rows 0 (.e80 l0_0)),(1,.rows 0 (.e84 l0_1)),(2,.rows 0 (.e106 l0_2)),(3,.rows 0 (.e110 l0_3)),(4,.rows 0 (.e60 l0_4)),(5,.box 36 [.rw 0,.rw 1,.rw 2,.rw 3,.rw 4,.sc (.i .i64 b5_5)])]⟩=>(D4.l2 k x5 x6 l0_0 l0_1 l0_2 l0_3 l0_4 b5_5).bind fun r=>some (o82 l0_0 l0_1 l0_2 l0_3 l0_4 r)
 | _=>none
def C1n:Nat→St Rw→Option (Out Rw):=fun k st=>match st with
 | ⟨108,5,6,[(1,.pt 5 0),(5,.w (.c (.sc (.i .i64 x5)))),(6,.w (.c (.sc (.i .i64 x6)))),(71,.w (.c (.sc (.b x71))))],[(0,.rows 0 (.e80 l0_0)),(1,.rows 0 (.e84 l0_1)),(2,.rows 0 (.e106 l0_2)),(3,.rows 0 (.e110 l0_3)),(4,.rows 0 (.e60 l0_4)),(5,.box 36 [.rw 0,.rw 1,.rw 2,.rw 3,.rw 4,.sc (.i .i64 b5_5)])]⟩=>(D4.j3 k x5 x6 x71 l0_0 l0_1 l0_2 l0_3 l0_4 b5_5).bind fun r=>some (o82 l0_0 l0_1 l0_2 l0_3 l0_4 r)
 | _=>none
def K82:List (Cut Rw):=[⟨[false,true,false,true],[1,3],C1q⟩,⟨[false,true,false,true,true],[1,5],C1p⟩,⟨[false,true,false,false,true,false,false,true,false,true,true],[1,5,6],C1o⟩,⟨[true,false,false,true,false,false,true,false,false,true,false,false,true,false,true,true],[1,5,6,71],C1n⟩]
theorem D3n:HH Tryz.prog O82 K82 Tryz.f82 [false,true,false,true] C1q:=fun k st out h=>by
 unfold C1q at h;split at h
 · rename_i x3 l0_0 l0_1 l0_2 l0_3 l0_4 b5_5
   exact Lo.of (b:=(if x3<(l0_3.length:Int) then (if 0≤x3 then (if x3<(l0_3.length:Int) then ((C9.f k l0_0 (A4 l0_3 x3).f0).bind fun r8=>(if r8=1 then ((D6.f k l0_1 (A4 l0_3 x3).f1).bind fun r9=>(if r9=2 then (if (A4 l0_3 x3).f2>b5_5 then (some (o82 l0_0 l0_1 l0_2 l0_3 l0_4 false)) else ((D4.l0 k (RowKit.wrap64 (x3+1)) l0_0 l0_1 l0_2 l0_3 l0_4 b5_5).bind fun r=>some (o82 l0_0 l0_1 l0_2 l0_3 l0_4 r))) else (some (o82 l0_0 l0_1 l0_2 l0_3 l0_4 false)))) else (some (o82 l0_0 l0_1 l0_2 l0_3 l0_4 false)))) else none) else none) else ((D4.l1 k 0 l0_0 l0_1 l0_2 l0_3 l0_4 b5_5).bind fun r=>some (o82 l0_0 l0_1 l0_2 l0_3 l0_4 r)))) (by kernel_rfl) (by rw [D4.l0];exact lo_) _ h
 · cases h
theorem D3m:HH Tryz.prog O82 K82 Tryz.f82 [false,true,false,true,true] C1p:=fun k st out h=>by
 unfold C1p at h;split at h
 · rename_i x5 l0_0 l0_1 l0_2 l0_3 l0_4 b5_5
   exact Lo.of (b:=(if x5<(l0_0.length:Int) then ((D4.l2 k x5 0 l0_0 l0_1 l0_2 l0_3 l0_4 b5_5).bind fun r=>some (o82 l0_0 l0_1 l0_2 l0_3 l0_4 r)) else (some (o82 l0_0 l0_1 l0_2 l0_3 l0_4 true)))) (by kernel_rfl) (by rw [D4.l1];exact lo_) _ h
 · cases h
theorem D3l:HH Tryz.prog O82 K82 Tryz.f82 [false,true,false,false,true,false,false,true,false,true,true] C1o:=fun k st out h=>by
 unfold C1o at h;split at h
 · rename_i x5 x6 l0_0 l0_1 l0_2 l0_3 l0_4 b5_5
   exact Lo.of (b:=(if x6<(l0_1.length:Int) then (if 0≤x5 then (if x5<(l0_0.length:Int) then (if (M2 l0_0 x5).f1=1 then (if 0≤x6 then (if x6<(l0_1.length:Int) then ((D4.j3 k x5 x6 (decide ((M5 l0_1 x6).f1=2)) l0_0 l0_1 l0_2 l0_3 l0_4 b5_5).bind fun r=>some (o82 l0_0 l0_1 l0_2 l0_3 l0_4 r)) else none) else none) else ((D4.j3 k x5 x6 false l0_0 l0_1 l0_2 l0_3 l0_4 b5_5).bind fun r=>some (o82 l0_0 l0_1 l0_2 l0_3 l0_4 r))) else none) else none) else ((D4.l1 k (RowKit.wrap64 (x5+1)) l0_0 l0_1 l0_2 l0_3 l0_4 b5_5).bind fun r=>some (o82 l0_0 l0_1 l0_2 l0_3 l0_4 r)))) (by kernel_rfl) (by rw [D4.l2];exact lo_) _ h
 · cases h
theorem D3k:HH Tryz.prog O82 K82 Tryz.f82 [true,false,false,true,false,false,true,false,false,true,false,false,true,false,true,true] C1n:=fun k st out h=>by
 unfold C1n at h;split at h
 · rename_i x5 x6 x71 l0_0 l0_1 l0_2 l0_3 l0_4 b5_5
   exact Lo.of (b:=(if x71=true then (if 0≤x5 then (if x5<(l0_0.length:Int) then (if 0≤x6 then (if x6<(l0_1.length:Int) then ((I6.f k l0_3 (M2 l0_0 x5).f0 (M5 l0_1 x6).f0).bind fun r10=>(if 0≤x5 then (if x5<(l0_0.length:Int) then (if 0≤x6 then (if x6<(l0_1.length:Int) then ((N7.f k r10.1).bind fun r11=>((N8.f k l0_2 (M2 l0_0 x5).f0 (M5 l0_1 x6).f0).bind fun r12=>(if r11=r12 then ((D4.l2 k x5 (RowKit.wrap64 (x6+1)) l0_0 l0_1 l0_2 l0_3 l0_4 b5_5).bind fun r=>some (o82 l0_0 l0_1 l0_2 l0_3 l0_4 r)) else (some (o82 l0_0 l0_1 l0_2 l0_3 l0_4 false))))) else none) else none) else none) else none)) else none) else none) else none) else none) else ((D4.l2 k x5 (RowKit.wrap64 (x6+1)) l0_0 l0_1 l0_2 l0_3 l0_4 b5_5).bind fun r=>some (o82 l0_0 l0_1 l0_2 l0_3 l0_4 r)))) (by kernel_rfl) (by rw [D4.j3];exact lo_) _ h
 · cases h
theorem d82:G8 Tryz.prog q82:=fn_d (O:=O82) (cs:=K82) (C0 d57 (C0 d62 (C0 d127 (C0 d128 (C0 d129 nil_))))) mixed Tryz.func82 (C0 (fun st=>by show C1q 0 st=none;unfold C1q;split<;>rfl) (C0 (fun st=>by show C1p 0 st=none;unfold C1p;split<;>rfl) (C0 (fun st=>by show C1o 0 st=none;unfold C1o;split<;>rfl) (C0 (fun st=>by show C1n 0 st=none;unfold C1n;split<;>rfl) nil_)))) (C0 D3n (C0 D3m (C0 D3l (C0 D3k nil_)))) fun k a h Z K z e=>by
 unfold Q82 at e;split at e
 · rename_i a0_5 l0_0 l0_1 l0_2 l0_3 l0_4
   exact ent e (Lo.of (b:=((D4.l0 k 0 l0_0 l0_1 l0_2 l0_3 l0_4 a0_5).bind fun r=>some (o82 l0_0 l0_1 l0_2 l0_3 l0_4 r))) (by kernel_rfl) (by unfold D4.f;exact lo_))
 · cases e
end
end Go.Proofs.YtmfgajbkcnlkcaaGreat.AI
