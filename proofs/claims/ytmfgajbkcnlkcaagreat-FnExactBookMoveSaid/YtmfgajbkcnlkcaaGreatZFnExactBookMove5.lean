/- What the law FnExactBookMove leans on, cut out of this repo's own texts by a program of this repo: plain functions, the walks that tie the Go calls to them, the law over lists and numbers, and the row. -/
import Derived.Test.YtmfgajbkcnlkcaaGreatZFnExactBookMove4
import Derived.Shelf.SlSortCmp.WholeK
namespace Go.Proofs.YtmfgajbkcnlkcaaGreat.IN
end Go.Proofs.YtmfgajbkcnlkcaaGreat.IN
namespace Go.Proofs.YtmfgajbkcnlkcaaGreat.DG
end Go.Proofs.YtmfgajbkcnlkcaaGreat.DG
namespace Go.Proofs.YtmfgajbkcnlkcaaGreat.SO
open Go Go.RowKit Go.Proofs.YtmfgajbkcnlkcaaGreatW.PrintWords Go.Proofs.YtmfgajbkcnlkcaaGreatW.PrintLast Go.Proofs.YtmfgajbkcnlkcaaGreatW.PrintMore Go.Proofs.YtmfgajbkcnlkcaaGreat.IN Go.Proofs.YtmfgajbkcnlkcaaGreat.DG
theorem B4b {w:World} {g n:Nat} {os:Array Obj} {cur:Array Value} {e:TypeId} {fr:Nat×Nat} (F:Array Value) (hb:w.heap[g]? = some (.cells cur e fr)) :
 (Sort.grow (Sort.putRow id (Sort.ahead w n) g 0 F) os).heap[g]? = some (.cells (Sort.putCells id 0 F cur) e fr):=by
 have hg:g<w.heap.size:=(Array.getElem?_eq_some_iff.1 hb).1
 rw [Sort.heap_grow_old _ _ (by simpa using hg)]
 simp [Sort.putRow,Sort.mapBlock,Sort.ahead,Array.getElem?_modify,hb,Sort.onCells]
theorem grownBy_sorted {w:World} {g n:Nat} {os:Array Obj} (F:Array Value):w.grownBy (Sort.grow (Sort.putRow id (Sort.ahead w n) g 0 F) os) (some g):=by
 refine ⟨rfl,rfl,rfl,by simp,fun k hk hne=>?_⟩
 rw [Sort.heap_grow_old _ _ (by simpa using hk)]
 have:g≠k:=fun e=>hne (by rw [e])
 simp [Sort.putRow,Sort.mapBlock,Sort.ahead,Array.getElem?_modify,this]
theorem A8n (cur F:Array Value) (h:F.size≤cur.size):(Sort.putCells id 0 F cur).toList=F.toList++cur.toList.drop F.size:=by
 apply List.ext_getElem?
 intro j
 rw [Array.getElem?_toList]
 by_cases hj:j<F.size
 · rw [List.getElem?_append_left (by simpa using hj),Array.getElem?_toList]
   simp [Sort.putCells,hj,show j<cur.size by omega]
 · rw [List.getElem?_append_right (by simpa using hj),List.getElem?_drop,Array.length_toList,Array.getElem?_toList]
   simp only [Sort.putCells,Array.getElem?_mapIdx]
   rw [show F.size+(j-F.size)=j from by omega]
   cases cur[j]? with
   | none=>rfl
   | some x=>
     rw [Option.map_some,if_neg (by omega)]
theorem B5o {α:Type} [Inhabited α] (enc:α→List Value) (k:Nat) (hk:∀ x,(enc x).length=k):∀ (xs:List α) (t:Nat),t<xs.length*k→(xs.flatMap enc)[t]? = some ((enc (xs[t/k]!))[t % k]!)
 | [],t,h=>by simp at h
 | x::xs,t,h=>by
   have hk0:0<k:=by
    rcases Nat.eq_zero_or_pos k with h0 | h0
    · rw [h0] at h
      simp at h
    · exact h0
   rw [List.flatMap_cons]
   by_cases ht:t<k
   · rw [List.getElem?_append_left (by rw [hk];exact ht),Nat.div_eq_of_lt ht,Nat.mod_eq_of_lt ht,List.getElem?_eq_getElem (by rw [hk];exact ht)]
     simp [hk,ht]
   · have hle:k≤t:=Nat.le_of_not_lt ht
     have h2:t-k<xs.length*k:=by
      rw [List.length_cons,Nat.add_mul,Nat.one_mul] at h
      omega
     rw [List.getElem?_append_right (by rw [hk];exact hle),hk,B5o enc k hk xs (t-k) h2]
     have e1:t/k=(t-k)/k+1:=Nat.div_eq_sub_div hk0 hle
     have e2:t % k=(t-k) % k:=Nat.mod_eq_sub_mod hle
     rw [e1,e2]
     rfl
theorem A7v {α:Type} [Inhabited α] (enc:α→List Value) (k:Nat) (hk:∀ x,(enc x).length=k) (xs:List α):(Sort.flatK enc k xs.toArray).toList=xs.flatMap enc:=by
 have hl:(xs.flatMap enc).length=xs.length*k:=by
  induction xs with
  | nil=>simp
  | cons x xs ih=>rw [List.flatMap_cons,List.length_append,ih,hk,List.length_cons,Nat.add_mul];omega
 apply List.ext_getElem?
 intro t
 rw [Array.getElem?_toList]
 by_cases ht:t<xs.length*k
 · rw [B5o enc k hk xs t ht]
   have h1:=Sort.get_flatK enc k xs.toArray t (by simpa using ht)
   have h2:t<(Sort.flatK enc k xs.toArray).size:=by simpa using ht
   rw [Array.getElem?_eq_getElem h2]
   rw [getElem!_pos _ t h2] at h1
   rw [h1]
   simp
 · rw [List.getElem?_eq_none (by rw [hl];omega),Array.getElem?_eq_none (by simp;omega)]
section
variable {α:Type} [Inhabited α] {d:Kd α} {enc:α→List Value} {k e c g:Nat} {W:World} {xs ys:List α}
theorem Raw.holds (h:Raw enc k e c g W xs) (hk:∀ x,(enc x).length=k):Sort.HoldsK enc k W g 0 xs.toArray:=by
 obtain ⟨cur,S,hc,h1,h2⟩:=h
 intro j hj
 have e1:=A7v enc k hk xs
 have e2:(Sort.flatK enc k xs.toArray).toList[j]? = some (Sort.flatK enc k xs.toArray)[j]!:=by
  rw [Array.getElem?_toList,Array.getElem?_eq_getElem hj,getElem!_pos _ j hj]
 refine ⟨?_,Q6 hc _⟩
 rw [cell_of_row W g _ cur e (0,0) hc,← Array.getElem?_toList,h2,Nat.zero_add,← e1,List.getElem?_append_left (by simpa using hj),e2]
 rfl
theorem Raw.sorted (h:Raw enc k e c g W xs) (hk:∀ x,(enc x).length=k) (hl:ys.length=xs.length) (n:Nat) (os:Array Obj):Raw enc k e c g (sortWorldK enc k W g 0 n ys.toArray os) ys:=by
 obtain ⟨cur,S,hc,h1,h2⟩:=h
 have e1:=A7v enc k hk ys
 have hx:(xs.flatMap enc).length=xs.length*k:=by
  clear hl e1 h2
  induction xs with
  | nil=>simp
  | cons x xs ih=>rw [List.flatMap_cons,List.length_append,ih,hk,List.length_cons,Nat.add_mul];omega
 have hs:(Sort.flatK enc k ys.toArray).size≤cur.size:=by
  rw [← Array.length_toList,e1,← Array.length_toList,h2,List.length_append,hx]
  have e3:(ys.flatMap enc).length=ys.length*k:=by
   rw [← e1,Array.length_toList,Sort.size_flatK]
   simp
  rw [e3,hl]
  omega
 exact ⟨_,_,B4b _ hc,by simp [Sort.putCells,h1],by rw [A8n _ _ hs,e1]⟩
end
theorem sorted_one {α:Type} [Inhabited α] {lt:α→α→Bool} (hS:Sort.SWO lt) (d d':Array α) (hanti:∀ x∈d.toList,∀ y∈d.toList,lt x y=false→lt y x=false→x=y) (hP:Sort.PermIn 0 d.size d d') (hSo:Sort.SortedIn lt 0 d.size d'):d'.toList=d.toList.mergeSort (fun x y=>!lt y x):=by
 obtain ⟨hsz,_,hperm⟩:=hP
 have e1:d'.extract 0 d.size=d':=by rw [← hsz];exact Array.extract_size
 rw [e1,Array.extract_size] at hperm
 refine List.Perm.eq_of_pairwise (le:=fun x y=>(!lt y x)=true) ?_ ?_ ?_ (hperm.trans (List.mergeSort_perm _ _).symm)
 · intro a b ha hb h1 h2
   simp only [Bool.not_eq_true'] at h1 h2
   exact hanti a (hperm.subset ha) b ((List.mergeSort_perm _ _).subset hb) h2 h1
 · rw [List.pairwise_iff_getElem]
   intro i j hi hj hij
   have hi':i<d'.size:=by simpa using hi
   have hj':j<d'.size:=by simpa using hj
   have:=hSo i j (Nat.zero_le _) hij (by omega)
   rw [getElem!_pos d' j hj',getElem!_pos d' i hi'] at this
   simpa using this
 · refine List.pairwise_mergeSort ?_ ?_ _
   · intro a b c h1 h2
     simp only [Bool.not_eq_true'] at h1 h2 ⊢
     exact hS.ntrans c b a h2 h1
   · intro a b
     cases h:lt b a with
     | false=>simp
     | true=>simp [hS.asymmA h]
theorem alloc2_grow (w:World) (o1 o2:Obj) (n:Nat):((w.alloc o1).alloc o2).drewN n=Sort.grow (w.drewN n) #[o1,o2]:=by
 rw [Sort.alloc_eq_grow,Sort.alloc_eq_grow,Sort.grow_grow]
 rfl
end Go.Proofs.YtmfgajbkcnlkcaaGreat.SO
