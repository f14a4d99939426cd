/- What the law FnExactTradesOpen leans on, cut out of this repo's own texts by a program of this repo: plain functions, the walks that tie the Go calls to them, the law over lists and numbers, and the row. -/
import Derived.Test.YtmfgajbkcnlkcaaZFnExactTradesOpen2
import Derived.OrdersHeld
import Derived.Below
import Derived.KernelRfl
namespace Go.Proofs.Ytmfgajbkcnlkcaa.P
end Go.Proofs.Ytmfgajbkcnlkcaa.P
namespace Go.Proofs.Ytmfgajbkcnlkcaa.AI
set_option linter.all false
open Go Go.RowKit
section
variable {R : Type} [RowT R] {P : Program} [RowL P R] {w0 : World} {L : Nat → Prop} {g0 : Nat → Value} {hp0 : List (Blk R)} {st st' : St R} {g g' : Nat → Value} {a : Act} {w w' : World} {o : Oper}
theorem any_mem {x : Nat} {l : List Nat} : l.any (Nat.beq x) = true ↔ x ∈ l := by
  rw [List.any_eq_true]
  exact ⟨fun ⟨y, h1, h2⟩ => by rw [beq_true h2]; exact h1, fun h => ⟨x, h, Nat.beq_refl x⟩⟩
theorem subset_ok {l m : List Nat} (h : subset l m = true) : ∀ x ∈ l, x ∈ m := fun x hx => any_mem.1 (List.all_eq_true.1 h x hx)
theorem quiet_call (h : callOf o ≠ none) : quietOp o.op = false := by
  unfold callOf at h
  split at h
  · rename_i c hop
    split at h
    · rename_i f hc
      rw [hop]; simp only [quietOp, hc]
    · exact absurd rfl h
  · exact absurd rfl h
theorem rowStore_ok {id k i : Nat} {r r' : R} {vs : List Sc} (h : rowStore P o st = some (id, k, r, i, vs)) (hs : RowT.set r i vs = some r') : pop P o st = some ([], { st with hp := (id, .rows k r') :: st.hp }) := by
  unfold rowStore at h
  split at h
  · rename_i t a x hop
    split at h
    · rename_i id1 sz1 i1 off1 y hd ha hx
      split at h
      · rename_i k1 r1 hb
        split at h
        · rename_i ys
          split at h
          · rename_i vs1 hv
            cases hc : (isStruct P t && Nat.beq off1 0 && Nat.beq t (RowT.ty r1)) with
            | false => rw [hc] at h; simp at h
            | true =>
              rw [hc] at h
              simp only [cond_true, Option.some.injEq, Prod.mk.injEq] at h
              obtain ⟨rfl, rfl, rfl, rfl, rfl⟩ := h
              unfold pop
              simp only [hop, hd, ha, hx, hb, hv, hc, hs, cond_true]
          · simp at h
        · rename_i y1
          split at h
          · rename_i v hv
            cases hc : isOne P t with
            | false => rw [hc] at h; simp at h
            | true =>
              rw [hc] at h
              simp only [cond_true] at h
              split at h
              · rename_i v0 hn
                simp only [Option.some.injEq, Prod.mk.injEq] at h
                obtain ⟨rfl, rfl, rfl, rfl, rfl⟩ := h
                unfold pop
                simp only [hop, hd, ha, hx, hb, hv, hc, hn, hs, cond_true]
              · simp at h
          · simp at h
      · simp at h
    · simp at h
  · simp at h
theorem eop_ok {O : List (Cal R)} (hO : ∀ c ∈ O, Sound P c) {k : Nat} {lm : Option (List Nat)} {Z : Type} {K : St R → Option Z} {z : Z} (h : eop P O k lm o st K = some z) :
    ∃ st' wr, K st' = some z ∧ Does P w0 L g0 hp0 o wr st st' ∧ ∀ d, lm = some d → ∀ x ∈ wr, x ∈ d := by
  have wi : ∀ {l : List Nat}, within lm l = true → ∀ d, lm = some d → ∀ x ∈ l, x ∈ d := by
    intro l hw d hd; subst hd; exact subset_ok hw
  unfold eop at h
  split at h
  · rename_i f xs hcall
    split at h
    · rename_i c hfind
      split at h
      · rename_i vs bs src hpack
        cases hnd : (nodup src && within lm (callW bs src)) with
        | false => rw [hnd] at h; simp at h
        | true =>
          rw [hnd] at h
          simp only [cond_true] at h
          simp only [Bool.and_eq_true] at hnd
          obtain ⟨hmem, hcf⟩ := find_ok hfind
          obtain ⟨⟨fn, hfn, hname, hbody⟩, hok⟩ := hO c hmem
          obtain ⟨out, h1, hgood⟩ := hok k vs bs Z _ z h
          split at h1
          · rename_i st1 hab
            have hq := quiet_call (o := o) (by rw [hcall]; simp)
            refine ⟨st1, callW bs src, h1, fun g a w hI => ?_, wi hnd.2⟩
            obtain ⟨hargs, hpk⟩ := packed hI hpack hnd.1
            have hrun : (execOp a.eval o).run P w = .ok (.enter c.f (vs.map (concV (seen g src))).toArray) w := by
              unfold callOf at hcall
              split at hcall
              · rename_i cl hop
                split at hcall
                · rename_i f' hcl
                  simp only [Option.some.injEq, Prod.mk.injEq] at hcall
                  obtain ⟨rfl, rfl⟩ := hcall
                  unfold execOp
                  rw [hop]
                  have hmap : cl.args.map a.eval = (vs.map (concV (seen g src))).toArray := by
                    rw [hargs, ← Array.toList_map, Array.toArray_toList]
                  have hne : ¬ fn.name = "runtime.NumGoroutine" := by simpa using hname
                  have hbd : ¬ fn.body = none := by intro e; rw [e] at hbody; simp at hbody
                  simp only [resolve, hcl, hmap, Act.eval, Deferred.ofValue]
                  rw [← hcf]
                  simp [invoke, callFunc, program, Sem.run, hfn, hne, hbd]
                · simp at hcall
              · simp at hcall
            refine ⟨?_, fun K' Q hK => ?_, fun hqo => by rw [hq] at hqo; simp at hqo⟩
            · obtain ⟨e, w', _, ⟨cv, g', _, hres⟩, _⟩ := hgood w (seen g src) hpk.args []
              obtain ⟨_, _, _, _, h4, h5, _⟩ := call_back hI hpk hres hab
              exact ⟨h4, h5⟩
            · unfold Oper.wp
              rw [hrun, Oper.upon_enter]
              refine (hgood w (seen g src) hpk.args).mono ?_
              rintro e w' ⟨cv, g', rfl, hres⟩
              obtain ⟨g2, hI2, h2, h3, _⟩ := call_back hI hpk hres hab
              exact hK g2 _ _ hI2 h2 h3
          · simp at h1
      · simp at h
    · simp at h
  · cases hw : within lm (writes st o) with
    | false => rw [hw] at h; simp at h
    | true =>
      rw [hw] at h
      simp only [cond_true] at h
      have fin : ∀ (ts : List Tst) (st1 : St R), pop P o st = some (ts, st1) → (∀ t ∈ ts, t.p) → K st1 = some z → ∃ st' wr, K st' = some z ∧ Does P w0 L g0 hp0 o wr st st' ∧ ∀ d, lm = some d → ∀ x ∈ wr, x ∈ d := by
        intro ts st1 hp h1 h2
        have hk := pop_keeps hp
        refine ⟨st1, writes st o, h2, fun g a w hI => ?_, wi hw⟩
        obtain ⟨g', v, w', hr, hI', hg, ht, hq⟩ := pop_wp hI hp h1
        refine ⟨hk, fun K' Q hK => ?_, fun hqo => ?_⟩
        · unfold Oper.wp
          rcases hr with hr | ⟨hr, rfl⟩
          · rw [hr]; exact hK g' _ _ hI' hg ht
          · rw [hr]; exact hK g' _ _ hI' hg ht
        · obtain ⟨rfl, hrun⟩ := hq hqo
          have hrr := hrun w (ld_here hI o)
          have hw' : w' = w := by
            rcases hr with hr | ⟨hr, _⟩
            · rw [hrr] at hr; injection hr with _ e; exact e.symm
            · rw [hrr] at hr; injection hr with e; simp at e
          subst hw'
          exact ⟨v, hI', hrun⟩
      split at h
      · rename_i id k r i vs hr
        obtain ⟨r', e1, e2⟩ := RowL.setK_eq (P := P) r i vs _ _ z h
        exact fin [] _ (rowStore_ok hr e1) (by simp) e2
      · split at h
        · rename_i ts st1 hp
          obtain ⟨h1, h2⟩ := tests_ok h
          exact fin ts st1 hp h1 h2
        · simp at h
def Bl (P : Program) (w0 : World) (L : Nat → Prop) (g0 : Nat → Value) (hp0 : List (Blk R)) (t : Nat) (b : Bool) (st st' : St R) : Prop :=
  st'.hp = st.hp ∧ st'.nx = st.nx ∧ ∀ g a w, Inv P w0 L g0 hp0 st g a w → a.tmps[t]? = some (.bool b) ∧ Inv P w0 L g0 hp0 st' g a w
theorem know_ok {t : Nat} {b : Bool} {v : V} (hv : st.v t = v) (hno : v ≠ .no) (hc : ∀ g, concV g v = .bool b) : Bl P w0 L g0 hp0 t b st (st.know t b) := by
  refine ⟨rfl, rfl, fun g a w h => ?_⟩
  have hg : get st.tm t = some v := by
    unfold St.v at hv
    cases hq : get st.tm t with
    | none => rw [hq] at hv; exact absurd hv.symm hno
    | some u => rw [hq] at hv; simp only [Option.getD_some] at hv; rw [hv]
  have h1 := h.tm t v hg hno
  rw [hc] at h1
  refine ⟨h1, h.defers, h.size, fun t' u hu hn => ?_, fun t' u hu => ?_, fun t' u hu => ?_, h.keep, h.args, h.na, h.hpna, h.heap⟩
  · simp only [St.know] at hu
    rw [get_cons] at hu
    split at hu
    · rename_i e; subst e; simp only [Option.some.injEq] at hu; subst hu; exact h1
    · exact h.tm t' u hu hn
  · simp only [St.know] at hu
    rw [get_cons] at hu
    split at hu
    · simp only [Option.some.injEq] at hu; subst hu; simp [idsV, idsW, idsC]
    · exact h.idT t' u hu
  · simp only [St.know] at hu
    rw [get_cons] at hu
    split at hu
    · simp only [Option.some.injEq] at hu; subst hu; trivial
    · exact h.ep t' u hu
omit [RowL P R] in
theorem same_ok {t : Nat} {b : Bool} {v : V} (hv : st.v t = v) (hno : v ≠ .no) (hc : ∀ g, concV g v = .bool b) : Bl P w0 L g0 hp0 t b st st := by
  refine ⟨rfl, rfl, fun g a w h => ⟨?_, h⟩⟩
  have hg : get st.tm t = some v := by
    unfold St.v at hv
    cases hq : get st.tm t with
    | none => rw [hq] at hv; exact absurd hv.symm hno
    | some u => rw [hq] at hv; simp only [Option.getD_some] at hv; rw [hv]
  rw [h.tm t v hg hno, hc]
theorem part_ok {Z : Type} {t : Nat} {F : Bool → St R → Option Z} {z : Z} (h : part st t F = some z) : ∃ b st', F b st' = some z ∧ Bl P w0 L g0 hp0 t b st st' := by
  unfold part at h
  split at h
  · rename_i hv; exact ⟨true, st, h, same_ok hv (by simp) fun _ => rfl⟩
  · rename_i hv; exact ⟨false, st, h, same_ok hv (by simp) fun _ => rfl⟩
  · rename_i p i hv
    by_cases hp : p
    · rw [@if_pos _ i hp] at h; exact ⟨true, _, h, know_ok hv (by simp) fun _ => by simp [concV, concW, conc, hp]⟩
    · rw [@if_neg _ i hp] at h; exact ⟨false, _, h, know_ok hv (by simp) fun _ => by simp [concV, concW, conc, hp]⟩
  · rename_i p i hv
    by_cases hp : p
    · rw [@if_pos _ i hp] at h; exact ⟨false, _, h, know_ok hv (by simp) fun _ => by simp [concV, concW, conc, hp]⟩
    · rw [@if_neg _ i hp] at h; exact ⟨true, _, h, know_ok hv (by simp) fun _ => by simp [concV, concW, conc, hp]⟩
  · rename_i b hv
    split at h
    · rename_i hb; exact ⟨true, _, h, know_ok hv (by simp) fun _ => by simp [concV, concW, conc, Sc.v, hb]⟩
    · rename_i hb; exact ⟨false, _, h, know_ok hv (by simp) fun _ => by simp [concV, concW, conc, Sc.v, hb]⟩
  · simp at h
theorem guarded_ok {Z : Type} {ops : Array Oper} {run pass : St R → Option Z} {z : Z} (h : guarded ops.toList o st run pass = some z) :
    ∃ (b : Bool) (st' : St R), (if b then run st' else pass st') = some z ∧ st'.hp = st.hp ∧ st'.nx = st.nx ∧
      ∀ g a w, Inv P w0 L g0 hp0 st g a w → Region.wanted o (yielded ops a.tmps) = b ∧ Inv P w0 L g0 hp0 st' g a w := by
  unfold guarded at h
  split at h
  · rename_i hg
    exact ⟨true, st, h, rfl, rfl, fun g a w hI => ⟨by simp [Region.wanted, hg], hI⟩⟩
  · rename_i j want hg
    split at h
    · rename_i t ht
      have hy : ∀ (a : Act) (b : Bool), a.tmps[t]? = some (.bool b) → Region.wanted o (yielded ops a.tmps) = (b == want) := by
        intro a b hb
        simp only [Region.wanted, hg, yielded]
        rw [nth_eq, Array.getElem?_toList] at ht
        rw [ht]
        simp only [Option.bind_some, hb]
        cases b <;> cases want <;> rfl
      split at h
      · rename_i hv
        refine ⟨false, st, h, rfl, rfl, fun g a w hI => ⟨?_, hI⟩⟩
        have hgt : get st.tm t = some .un := by
          unfold St.v at hv
          cases hq : get st.tm t with
          | none => rw [hq] at hv; simp at hv
          | some u => rw [hq] at hv; simp only [Option.getD_some] at hv; rw [hv]
        have h1 := hI.tm t _ hgt (by simp)
        simp only [Region.wanted, hg, yielded]
        rw [nth_eq, Array.getElem?_toList] at ht
        rw [ht]
        simp only [Option.bind_some, h1, concV]
        rfl
      · obtain ⟨b, st', h1, h2, h3, h4⟩ := part_ok (P := P) (w0 := w0) (L := L) (g0 := g0) (hp0 := hp0) h
        refine ⟨b == want, st', ?_, h2, h3, fun g a w hI => ?_⟩
        · cases hb : (b == want) with
          | true => rw [hb] at h1; simpa using h1
          | false => rw [hb] at h1; simpa using h1
        · obtain ⟨q1, q2⟩ := h4 g a w hI
          exact ⟨hy a b q1, q2⟩
    · simp at h
theorem passed_ok {Z : Type} {K : St R → Option Z} {z : Z} (h : passed o st K = some z) : ∃ st', K st' = some z ∧ st'.hp = st.hp ∧ st'.nx = st.nx ∧ ∀ g a w, Inv P w0 L g0 hp0 st g a w → Inv P w0 L g0 hp0 st' g (a.put o.dst undef) w := by
  unfold passed at h
  split at h
  · rename_i s hs
    obtain ⟨h1, h2, _⟩ := put_st hs
    exact ⟨s, h, h1, h2, fun g a w hI => hI.put hs (fun _ => rfl) (by simp [idsV]) trivial⟩
  · simp at h
theorem eops_ok {O : List (Cal R)} (hO : ∀ c ∈ O, Sound P c) {k : Nat} {Z : Type} {K : St R → Option Z} {z : Z} {ops : Array Oper} : ∀ (l : List Oper) (st : St R), eops P O k ops.toList l st K = some z →
    ∃ st', K st' = some z ∧ ∀ g a w (Q : Exit → Act → World → Prop), Inv P w0 L g0 hp0 st g a w → (∀ g' a' w', Inv P w0 L g0 hp0 st' g' a' w' → Q .normal a' w') → wpList P ops Q l a w
  | [], st, h => ⟨st, h, fun g a w Q hI hK => hK g a w hI⟩
  | o :: l, st, h => by
    simp only [eops] at h
    obtain ⟨b, st1, h1, _, _, h2⟩ := guarded_ok (P := P) (w0 := w0) (L := L) (g0 := g0) (hp0 := hp0) h
    cases b with
    | true =>
      simp only [if_true] at h1
      obtain ⟨st2, wr, h3, h4, _⟩ := eop_ok (w0 := w0) (L := L) (g0 := g0) (hp0 := hp0) hO h1
      obtain ⟨st', h5, h6⟩ := eops_ok hO l st2 h3
      refine ⟨st', h5, fun g a w Q hI hK => ?_⟩
      obtain ⟨q1, q2⟩ := h2 g a w hI
      unfold wpList
      rw [if_pos q1]
      exact .inl ((h4 g a w q2).2.1 _ _ fun g' a' w' hI' _ _ => h6 g' a' w' Q hI' hK)
    | false =>
      simp only [Bool.false_eq_true, if_false] at h1
      obtain ⟨st2, h3, _, _, h4⟩ := passed_ok (P := P) (w0 := w0) (L := L) (g0 := g0) (hp0 := hp0) h1
      obtain ⟨st', h5, h6⟩ := eops_ok hO l st2 h3
      refine ⟨st', h5, fun g a w Q hI hK => ?_⟩
      obtain ⟨q1, q2⟩ := h2 g a w hI
      unfold wpList
      rw [if_neg (by rw [q1]; simp)]
      exact h6 g _ w Q (h4 g a w q2) hK
end
end Go.Proofs.Ytmfgajbkcnlkcaa.AI
namespace Go.Proofs.Ytmfgajbkcnlkcaa.AI
set_option linter.all false
open Go Go.RowKit
section
variable {R : Type} [RowT R] {P : Program} [RowL P R] {w0 : World} {L : Nat → Prop} {g0 : Nat → Value} {hp0 : List (Blk R)} {st st' st0 : St R} {g g' gS : Nat → Value} {a : Act} {w w' wS : World} {o : Oper} {d : List Nat}
structure Held (d : List Nat) (st0 : St R) (gS : Nat → Value) (wS : World) (st : St R) (g : Nat → Value) (w : World) : Prop where
  keeps : Keeps d st0 st
  names : ∀ i, i < st0.nx → g i = gS i
  tch : Tch gS d wS w
omit [RowL P R] in
theorem Held.same (h : Held d st0 gS wS st g w) (h1 : st'.hp = st.hp) (h2 : st'.nx = st.nx) : Held d st0 gS wS st' g w :=
  ⟨⟨fun id a b => by rw [h1]; exact h.keeps.1 id a b, by rw [h2]; exact h.keeps.2⟩, h.names, h.tch⟩
theorem held_ld (h0 : HOK P w0 L st0.nx st0.hp gS wS) (hd : ∀ x ∈ d, ∃ t cs, get st0.hp x = some (.box t cs)) (h : Held d st0 gS wS st g w) (ho : okLoad d st0.nx st o = true) :
    ∀ w1, Tch gS d wS w1 → LdOK P st g w0.heap.size o w1 := by
  intro w1 ht id hid b hb
  have h1 := List.all_eq_true.1 ho id hid
  simp only [Bool.and_eq_true, Bool.not_eq_true'] at h1
  have hlt : id < st0.nx := by
    have := h1.1
    simp only [Nat.blt] at this
    exact Nat.le_of_ble_eq_true this
  have hnd : id ∉ d := fun hm => by have := any_mem.2 hm; rw [this] at h1; simp at h1
  rw [h.keeps.1 id hlt hnd] at hb
  have hbk := h0.blk id b hb
  have hmv : BlkOK P gS w1 w0.heap.size id b := hbk.move fun n hn => ht.block n (hbk.lt hn) fun x hx hbx => by
    obtain ⟨t, cs, hg⟩ := hd x hx
    exact h0.sep x _ id b n hg hb (fun e => hnd (e ▸ hx)) trivial hbx hn
  exact hmv.name (h.names id hlt) fun j hj => h.names j (h0.idB id b hb j hj)
omit [RowL P R] in
theorem Held.step (h : Held d st0 gS wS st g w) (hd : ∀ x ∈ d, x < st0.nx) {wr : List Nat} (hs : ∀ x ∈ wr, x ∈ d) (hk : Keeps wr st st') (hg : ∀ i, i < st.nx → g' i = g i) (ht : Tch g wr w w') : Held d st0 gS wS st' g' w' := by
  have hn := h.keeps.2
  refine ⟨h.keeps.trans ⟨fun id h1 h2 => hk.1 id h1 fun hm => h2 (hs id hm), hk.2⟩, fun i hi => (hg i (by omega)).trans (h.names i hi), ?_⟩
  refine ⟨ht.os.trans h.tch.os, ht.tape.trans h.tch.tape, ht.output.trans h.tch.output, Nat.le_trans h.tch.size ht.size, fun k hk1 hk2 => ?_⟩
  rw [ht.block k (Nat.lt_of_lt_of_le hk1 h.tch.size) fun id hid => by rw [h.names id (hd id (hs id hid))]; exact hk2 id (hs id hid)]
  exact h.tch.block k hk1 hk2
theorem firstQ_ok {ops : Array Oper} {listed : Array Bool} : ∀ {l : List Nat} {j : Nat}, firstQ ops listed l = some j → j ∈ l ∧ Region.free .any ops listed j = true ∧ ∃ o, ops[j]? = some o ∧ quietOp o.op = true
  | [], j, h => by simp [firstQ] at h
  | i :: l, j, h => by
    simp only [firstQ] at h
    split at h
    · rename_i o ho
      cases hc : (quietOp o.op && Region.free .any ops listed i) with
      | true =>
        rw [hc] at h
        simp only [cond_true, Option.some.injEq] at h; subst h
        simp only [Bool.and_eq_true] at hc
        exact ⟨List.mem_cons_self .., hc.2, o, ho, hc.1⟩
      | false =>
        rw [hc] at h
        obtain ⟨h1, h2⟩ := firstQ_ok (by simpa using h)
        exact ⟨List.mem_cons_of_mem _ h1, h2⟩
    · obtain ⟨h1, h2⟩ := firstQ_ok (by simpa using h)
      exact ⟨List.mem_cons_of_mem _ h1, h2⟩
theorem mkPlan_ok {ops : Array Oper} : ∀ {f : Nat} {listed : Array Bool} {l : List Nat}, mkPlan ops f listed = some l →
    (l = [] ∧ Region.ready .any ops listed = []) ∨ ∃ i r f', l = i :: r ∧ f = f' + 1 ∧ mkPlan ops f' (listed.setIfInBounds i true) = some r ∧
      ((i ∈ Region.ready .any ops listed ∧ Region.free .any ops listed i = true ∧ ∃ o, ops[i]? = some o ∧ quietOp o.op = true) ∨ Region.ready .any ops listed = [i])
  | 0, listed, l, h => by
    simp only [mkPlan] at h
    split at h
    · rename_i hr; simp only [Option.some.injEq] at h; exact .inl ⟨h.symm, hr⟩
    · simp at h
  | f + 1, listed, l, h => by
    simp only [mkPlan] at h
    split at h
    · rename_i hr; simp only [Option.some.injEq] at h; exact .inl ⟨h.symm, hr⟩
    · rename_i i r hr
      split at h
      · rename_i j hj
        split at h
        · rename_i l' hl
          simp only [Option.some.injEq] at h; subst h
          obtain ⟨h1, h2⟩ := firstQ_ok hj
          exact .inr ⟨j, l', f, rfl, rfl, hl, .inl ⟨by rw [hr]; exact h1, h2⟩⟩
        · simp at h
      · split at h
        · split at h
          · rename_i l' hl
            simp only [Option.some.injEq] at h; subst h
            exact .inr ⟨i, l', f, rfl, rfl, hl, .inr hr⟩
          · simp at h
        · simp at h
theorem eopsD_ok {O : List (Cal R)} (hO : ∀ c ∈ O, Sound P c) {k : Nat} {Z : Type} {K : St R → Option Z} {z : Z} {ops : Array Oper} (hsel : Region.noSelect ops = true) : ∀ (l : List Nat) (f : Nat) (listed : Array Bool) (st : St R), mkPlan ops f listed = some l → eopsD P O k ops.toList d st0.nx l st K = some z →
    ∃ st', K st' = some z ∧ ∀ gS wS, HOK P w0 L st0.nx st0.hp gS wS → (∀ x ∈ d, x < st0.nx ∧ ∃ t cs, get st0.hp x = some (.box t cs)) → ∀ g a w (Q : Exit → Act → World → Prop), (∀ c a w, ¬ Q (.panic c) a w) → Inv P w0 L g0 hp0 st g a w → Held d st0 gS wS st g w →
      (∀ g' a' w', Inv P w0 L g0 hp0 st' g' a' w' → Q .normal a' w') → wpAnyH P .any ops Q (Tch gS d wS) f listed a w
  | [], f, listed, st, hp, h => by
    simp only [eopsD] at h
    rcases mkPlan_ok hp with ⟨_, hr⟩ | ⟨i, r, f', e, _⟩
    · exact ⟨st, h, fun gS wS h0 hd g a w Q hQ hI hH hK => wpAnyH_done hr (hK g a w hI) f⟩
    · simp at e
  | i :: l, f, listed, st, hp, h => by
    rcases mkPlan_ok hp with ⟨e, _⟩ | ⟨i', r, f', e, rfl, hp', hcase⟩
    · simp at e
    · injection e with e1 e2; subst e1; subst e2
      simp only [eopsD] at h
      split at h
      case h_2 => simp at h
      rename_i o ho
      rw [nth_eq, Array.getElem?_toList] at ho
      obtain ⟨b, st1, h1, hh1, hn1, h2⟩ := guarded_ok (P := P) (w0 := w0) (L := L) (g0 := g0) (hp0 := hp0) h
      cases b with
      | true =>
        simp only [if_true] at h1
        cases hc : (!quietOp o.op || okLoad d st0.nx st1 o) with
        | false => rw [hc] at h1; simp at h1
        | true =>
          rw [hc] at h1
          simp only [cond_true] at h1
          obtain ⟨st2, wr, h3, h4, h5⟩ := eop_ok (w0 := w0) (L := L) (g0 := g0) (hp0 := hp0) hO h1
          have hwr := h5 d rfl
          obtain ⟨st', h6, h7⟩ := eopsD_ok hO hsel l f' _ st2 hp' h3
          refine ⟨st', h6, fun gS wS h0 hd g a w Q hQ hI hH hK => ?_⟩
          obtain ⟨q1, q2⟩ := h2 g a w hI
          have hH1 := hH.same (st' := st1) hh1 hn1
          obtain ⟨k1, k2, k3⟩ := h4 g a w q2
          rcases hcase with ⟨c1, c2, o', c3, c4⟩ | c1
          · rw [ho] at c3; injection c3 with c3; subst c3
            obtain ⟨v, v1, v2⟩ := k3 c4
            have hol : okLoad d st0.nx st1 o = true := by simpa [c4] using hc
            have hld := held_ld h0 (fun x hx => (hd x hx).2) hH1 hol
            refine wpAnyH_take ho hsel c2 (by simpa using c1) (fun c a w hq => absurd hq (hQ c _ w)) (.inl ⟨q1, fun w1 hw1 => v2 w1 (hld w1 hw1)⟩) hH.tch ?_
            refine h7 gS wS h0 hd g _ w Q hQ v1 ?_ hK
            exact ⟨hH1.keeps.trans ⟨fun id y1 y2 => k1.1 id y1 fun hm => y2 (hwr id hm), k1.2⟩, hH1.names, hH1.tch⟩
          · refine wpAnyH_all c1 (by simp) fun j hj => ?_
            simp only [List.mem_singleton] at hj; subst hj
            unfold wpOp
            rw [ho]
            simp only [q1, if_true]
            exact .inl (k2 _ _ fun g' a' w' hI' hg' ht' => by
              have hH2 := hH1.step (fun x hx => (hd x hx).1) hwr k1 hg' ht'
              exact ⟨hH2.tch, h7 gS wS h0 hd g' a' w' Q hQ hI' hH2 hK⟩)
      | false =>
        simp only [Bool.false_eq_true, if_false] at h1
        obtain ⟨st2, h3, hh2, hn2, h4⟩ := passed_ok (P := P) (w0 := w0) (L := L) (g0 := g0) (hp0 := hp0) h1
        obtain ⟨st', h6, h7⟩ := eopsD_ok hO hsel l f' _ st2 hp' h3
        refine ⟨st', h6, fun gS wS h0 hd g a w Q hQ hI hH hK => ?_⟩
        obtain ⟨q1, q2⟩ := h2 g a w hI
        have hH2 := (hH.same (st' := st1) hh1 hn1).same (st' := st2) hh2 hn2
        rcases hcase with ⟨c1, c2, o', c3, c4⟩ | c1
        · rw [ho] at c3; injection c3 with c3; subst c3
          exact wpAnyH_take ho hsel c2 (by simpa using c1) (fun c a w hq => absurd hq (hQ c _ w)) (.inr ⟨q1, rfl⟩) hH.tch (h7 gS wS h0 hd g _ w Q hQ (h4 g a w q2) hH2 hK)
        · refine wpAnyH_all c1 (by simp) fun j hj => ?_
          simp only [List.mem_singleton] at hj; subst hj
          unfold wpOp
          rw [ho]
          simp only [q1, Bool.false_eq_true, if_false]
          exact ⟨hH.tch, h7 gS wS h0 hd g _ w Q hQ (h4 g a w q2) hH2 hK⟩
omit [RowL P R] in
theorem dirty_ok {st : St R} {w : World} (h : HOK P w0 L st.nx st.hp g w) : ∀ (l : List Oper), ∀ x ∈ dirty st l, x < st.nx ∧ ∃ t cs, get st.hp x = some (.box t cs)
  | [], x, hx => by simp [dirty] at hx
  | o :: l, x, hx => by
    unfold dirty at hx
    repeat' split at hx
    all_goals first
      | exact dirty_ok h l x hx
      | (rcases List.mem_cons.1 hx with rfl | hx
         · rename_i hb; exact ⟨h.idH _ _ hb, _, _, hb⟩
         · exact dirty_ok h l x hx)
theorem eregion_ok {O : List (Cal R)} (hO : ∀ c ∈ O, Sound P c) (hm : P.follows .mixedOrders = true) {k : Nat} {Z : Type} {K : St R → Option Z} {z : Z} {id : Nat} {ops : Array Oper} {draw : Bool} (h : eregion P O k ops draw st K = some z) :
    ∃ st', K st' = some z ∧ ∀ g a w (Q : Exit → Act → World → Prop), (∀ c a w, ¬ Q (.panic c) a w) → Inv P w0 L g0 hp0 st g a w → (∀ g' a' w', Inv P w0 L g0 hp0 st' g' a' w' → Q .normal a' w') → (Code.region id ops draw).wp P Q a w := by
  unfold eregion at h
  cases draw with
  | false =>
    obtain ⟨st', h1, h2⟩ := eops_ok (w0 := w0) (L := L) (g0 := g0) (hp0 := hp0) hO _ st h
    exact ⟨st', h1, fun g a w Q _ hI hK => wp_region_list (h2 g a w Q hI hK)⟩
  | true =>
    simp only [cond_true] at h
    split at h
    case h_2 => simp at h
    rename_i l hl
    unfold plan at hl
    cases hs : Region.noSelect ops with
    | false => rw [hs] at hl; simp at hl
    | true =>
      rw [hs] at hl
      simp only [cond_true] at hl
      obtain ⟨st', h1, h2⟩ := eopsD_ok (w0 := w0) (L := L) (g0 := g0) (hp0 := hp0) hO hs l _ _ st hl h
      refine ⟨st', h1, fun g a w Q hQ hI hK => wp_region_held (S := Tch g (dirty st ops.toList) { w with drawn := w.drawn + 1 }) hm ?_⟩
      have hI1 : Inv P w0 L g0 hp0 st g a { w with drawn := w.drawn + 1 } := ⟨hI.defers, hI.size, hI.tm, hI.idT, hI.ep, hI.keep, hI.args, hI.na, hI.hpna, hI.heap.grow ⟨rfl, rfl, rfl, Nat.le_refl _, fun _ _ _ => rfl⟩⟩
      exact h2 g _ hI1.heap (dirty_ok hI1.heap ops.toList) g a _ Q hQ hI1 ⟨⟨fun _ _ _ => rfl, Nat.le_refl _⟩, fun _ _ => rfl, Tch.refl _ _ _⟩ hK
end
end Go.Proofs.Ytmfgajbkcnlkcaa.AI
namespace Go.Proofs.Ytmfgajbkcnlkcaa.AI
set_option linter.all false
open Go Go.RowKit
section
variable {R : Type} [RowT R] {P : Program} [RowL P R] {w0 : World} {L : Nat → Prop} {g0 : Nat → Value} {hp0 : List (Blk R)} {st st' : St R} {g g' : Nat → Value} {a : Act} {w w' : World}
def LW (P : Program) (c : Code) (Q : Exit → Act → World → Prop) (a : Act) (w : World) : Prop :=
  ∀ (b : Frame) (k : List Item) (cs : List Frame), ∃ e a' w', Q e a' w' ∧ Arrives P (lone (b.at a (.code c :: .inLoop c :: k)) cs w) b k cs e a' w'
omit [RowL P R] in
theorem lw_loop {c : Code} {Q : Exit → Act → World → Prop} (h : LW P c Q a w) : (Code.loop c).wp P Q a w := fun b k cs =>
  let ⟨e, a', w', hq, harr⟩ := h b k cs; ⟨e, a', w', hq, .of_steps (.one step_loop) harr⟩
theorem lw_body {P : Program} {a : Act} {w : World} {c : Code} {Q : Exit → Act → World → Prop} (h : c.wp P (Exit.then (LW P c Q) Q) a w) : LW P c Q a w := by
  intro b k cs
  obtain ⟨e, a₁, w₁, hq, harr⟩ := h b (.inLoop c :: k) cs
  cases e with
  | normal =>
    obtain ⟨e₂, a₂, w₂, hq₂, harr₂⟩ := hq b k cs
    exact ⟨e₂, a₂, w₂, hq₂, .of_steps (Steps.trans harr (.one step_inLoop)) harr₂⟩
  | exit id => exact ⟨_, a₁, w₁, hq, .pass (x := .inLoop c) rfl (fun _ _ => .inl (by simp)) harr⟩
  | goto l => exact ⟨_, a₁, w₁, hq, .pass (x := .inLoop c) rfl (fun _ _ => .inl (by simp)) harr⟩
  | ret => exact ⟨_, a₁, w₁, hq, .pass (x := .inLoop c) rfl (fun _ _ => .inl (by simp)) harr⟩
  | panic ch => exact ⟨_, a₁, w₁, hq, .pass (x := .inLoop c) rfl (fun _ _ => .inl (by simp)) harr⟩
  | outgrown => exact ⟨_, a₁, w₁, hq, .pass (x := .inLoop c) rfl (fun _ _ => .inl (by simp)) harr⟩
def qr (P : Program) (c : Code) (Q0 : Exit → Act → World → Prop) : List Bool → Exit → Act → World → Prop
  | [] => Q0
  | d :: p => match sub c p with
    | some (.seq _ b) => cond d (qr P c Q0 p) (Exit.then (b.wp P (qr P c Q0 p)) (qr P c Q0 p))
    | some (.block id _) => Exit.inBlock id (qr P c Q0 p)
    | some (.loop x) => Exit.then (LW P x (qr P c Q0 p)) (qr P c Q0 p)
    | _ => qr P c Q0 p
def NoPanic (Q : Exit → Act → World → Prop) : Prop := ∀ c a w, ¬ Q (.panic c) a w
theorem qr_np {P : Program} {c : Code} {Q0 : Exit → Act → World → Prop} (h : NoPanic Q0) : ∀ p, NoPanic (qr P c Q0 p)
  | [] => h
  | d :: p => by
    have ih := qr_np (P := P) (c := c) h p
    simp only [qr]
    split
    · cases d
      · exact ih
      · exact ih
    · exact ih
    · exact ih
    · exact ih
def Ex.out : Ex → Exit
  | .normal => .normal
  | .exit id => .exit id
  | .ret => .ret
def CutOK (P : Program) (root : Code) (Q0 : Exit → Act → World → Prop) (p : List Bool) (a : Act) (w : World) : Prop := match sub root p with
  | some (.loop x) => LW P x (qr P root Q0 p) a w
  | some (.cond t x y) => (Code.cond t x y).wp P (qr P root Q0 p) a w
  | some (.seq x y) => (Code.seq x y).wp P (qr P root Q0 p) a w
  | _ => False
theorem eqP_ok : ∀ {p q : List Bool}, eqP p q = true → p = q
  | [], [], _ => rfl
  | x :: p, y :: q, h => by
    simp only [eqP, Bool.and_eq_true, beq_iff_eq] at h
    rw [h.1, eqP_ok h.2]
  | [], _ :: _, h => by simp [eqP] at h
  | _ :: _, [], h => by simp [eqP] at h
omit [RowT R] in
theorem cutAt_ok : ∀ {cs : List (Cut R)} {p : List Bool} {c : Cut R}, cutAt cs p = some c → c ∈ cs ∧ c.p = p
  | [], p, c, h => by simp [cutAt] at h
  | x :: cs, p, c, h => by
    simp only [cutAt] at h
    cases hb : eqP x.p p with
    | true => rw [hb] at h; simp only [cond_true, Option.some.injEq] at h; subst h; exact ⟨List.mem_cons_self .., eqP_ok hb⟩
    | false => rw [hb] at h; obtain ⟨h1, h2⟩ := cutAt_ok (by simpa using h); exact ⟨List.mem_cons_of_mem _ h1, h2⟩
section body
variable {O : List (Cal R)} {cs : List (Cut R)} {k : Nat} {root : Code} {Q0 : Exit → Act → World → Prop} {out : Out R}
def Claim (P : Program) (w0 : World) (L : Nat → Prop) (g0 : Nat → Value) (hp0 : List (Blk R)) (root : Code) (Q0 : Exit → Act → World → Prop) (out : Out R) (cs : List (Cut R)) (k : Nat) : Prop :=
  ∀ c ∈ cs, ∀ st, c.f k st = some out → ∀ g a w, Inv P w0 L g0 hp0 st g a w → CutOK P root Q0 c.p a w
def KOK (P : Program) (w0 : World) (L : Nat → Prop) (g0 : Nat → Value) (hp0 : List (Blk R)) (out : Out R) (K : Ex → St R → Option (Out R)) (Q : Exit → Act → World → Prop) : Prop :=
  ∀ e st, K e st = some out → ∀ g a w, Inv P w0 L g0 hp0 st g a w → Q e.out a w
theorem stop_ok (hc : Claim P w0 L g0 hp0 root Q0 out cs k) {p : List Bool} {c : Cut R} (hp : cutAt cs p = some c) (h : stop k c st = some out) (hI : Inv P w0 L g0 hp0 st g a w) : CutOK P root Q0 p a w := by
  unfold stop at h
  split at h
  · rename_i st' hs
    obtain ⟨g', hI'⟩ := canon_ok hI hs
    obtain ⟨h1, h2⟩ := cutAt_ok hp
    have := hc c h1 st' h g' a w hI'
    rwa [h2] at this
  · simp at h
theorem ecode_ok (hO : ∀ c ∈ O, Sound P c) (hm : P.follows .mixedOrders = true) (hnp : NoPanic Q0) (hc : Claim P w0 L g0 hp0 root Q0 out cs k) : ∀ (c : Code) (p : List Bool) (st : St R) (K : Ex → St R → Option (Out R)),
    sub root p = some c → KOK P w0 L g0 hp0 out K (qr P root Q0 p) → ecode P O cs k c p st K = some out → ∀ g a w, Inv P w0 L g0 hp0 st g a w → c.wp P (qr P root Q0 p) a w := by
  intro c
  induction c with
  | skip => intro p st K hp hK h g a w hI; exact wp_skip (hK .normal st h g a w hI)
  | region id ops draw =>
    intro p st K hp hK h g a w hI
    simp only [ecode] at h
    obtain ⟨st', h1, h2⟩ := eregion_ok (w0 := w0) (L := L) (g0 := g0) (hp0 := hp0) (id := id) hO hm h
    exact h2 g a w _ (qr_np hnp p) hI fun g' a' w' hI' => hK .normal st' h1 g' a' w' hI'
  | seq x y ihx ihy =>
    intro p st K hp hK h g a w hI
    simp only [ecode] at h
    split at h
    · rename_i ct hcut
      have := stop_ok hc hcut h hI
      simp only [CutOK, hp] at this
      exact this
    · have e1 : qr P root Q0 (false :: p) = Exit.then (y.wp P (qr P root Q0 p)) (qr P root Q0 p) := by simp only [qr, hp, cond_false]
      have e2 : qr P root Q0 (true :: p) = qr P root Q0 p := by simp only [qr, hp, cond_true]
      have h1 := ihx (false :: p) st _ (by simp only [sub, hp, cond_false]) ?_ h g a w hI
      · rw [e1] at h1; exact wp_seq h1
      · rw [e1]
        intro e st1 h1 g1 a1 w1 hI1
        cases e with
        | normal => have h2 := ihy (true :: p) st1 K (by simp only [sub, hp, cond_true]) (by rw [e2]; exact hK) h1 g1 a1 w1 hI1
                    rw [e2] at h2; exact h2
        | exit id => exact hK (.exit id) st1 h1 g1 a1 w1 hI1
        | ret => exact hK .ret st1 h1 g1 a1 w1 hI1
  | cond t x y ihx ihy =>
    intro p st K hp hK h g a w hI
    have e1 : ∀ d, qr P root Q0 (d :: p) = qr P root Q0 p := fun d => by simp only [qr, hp]
    cases t with
    | tmp t =>
      simp only [ecode] at h
      split at h
      · rename_i ct hcut
        have := stop_ok hc hcut h hI
        simp only [CutOK, hp] at this
        exact this
      · obtain ⟨b, st1, h1, _, _, h2⟩ := part_ok (P := P) (w0 := w0) (L := L) (g0 := g0) (hp0 := hp0) h
        obtain ⟨q1, q2⟩ := h2 g a w hI
        refine wp_cond (t := b) (by simp [Act.eval, Array.getD_eq_getD_getElem?, q1]) ?_
        cases b with
        | true =>
          have h3 := ihx (false :: p) st1 K (by simp only [sub, hp, cond_false]) (by rw [e1]; exact hK) (by simpa using h1) g a w q2
          rw [e1] at h3; simpa using h3
        | false =>
          have h3 := ihy (true :: p) st1 K (by simp only [sub, hp, cond_true]) (by rw [e1]; exact hK) (by simpa using h1) g a w q2
          rw [e1] at h3; simpa using h3
    | const _ => simp [ecode] at h
    | global _ => simp [ecode] at h
    | func _ => simp [ecode] at h
  | block id x ih =>
    intro p st K hp hK h g a w hI
    simp only [ecode] at h
    have e1 : ∀ d, qr P root Q0 (d :: p) = Exit.inBlock id (qr P root Q0 p) := fun d => by simp only [qr, hp]
    have h1 := ih (false :: p) st _ (by simp only [sub, hp]) ?_ h g a w hI
    · rw [e1] at h1; exact wp_block h1
    · rw [e1]
      intro e st1 h1 g1 a1 w1 hI1
      cases e with
      | normal => exact hK .normal st1 h1 g1 a1 w1 hI1
      | exit j =>
        simp only at h1
        show (if j = id then qr P root Q0 p .normal a1 w1 else qr P root Q0 p (.exit j) a1 w1)
        cases hb : Nat.beq j id with
        | true => rw [hb] at h1; rw [if_pos (beq_true hb)]; exact hK .normal st1 h1 g1 a1 w1 hI1
        | false => rw [hb] at h1; rw [if_neg (fun e => by rw [e, Nat.beq_refl] at hb; simp at hb)]; exact hK (.exit j) st1 h1 g1 a1 w1 hI1
      | ret => exact hK .ret st1 h1 g1 a1 w1 hI1
  | loop x _ =>
    intro p st K hp hK h g a w hI
    simp only [ecode] at h
    split at h
    · rename_i ct hcut
      have := stop_ok hc hcut h hI
      simp only [CutOK, hp] at this
      exact lw_loop this
    · simp at h
  | exit id => intro p st K hp hK h g a w hI; exact wp_exit (hK (.exit id) st h g a w hI)
  | ret => intro p st K hp hK h g a w hI; exact wp_ret (hK .ret st h g a w hI)
  | _ => intro p st K hp hK h; simp [ecode] at h
theorem kr_ok (hO : ∀ c ∈ O, Sound P c) (hm : P.follows .mixedOrders = true) (hnp : NoPanic Q0) (hc : Claim P w0 L g0 hp0 root Q0 out cs k) {K0 : Ex → St R → Option (Out R)} (h0 : KOK P w0 L g0 hp0 out K0 Q0) :
    ∀ p, KOK P w0 L g0 hp0 out (kr P O cs k root K0 p) (qr P root Q0 p)
  | [] => h0
  | d :: p => by
    have ih := kr_ok hO hm hnp hc h0 p
    intro e st h g a w hI
    cases hp : sub root p with
    | none => simp [kr, hp] at h
    | some c =>
      cases c with
      | seq x y =>
        simp only [kr, hp] at h
        simp only [qr, hp]
        cases d with
        | true => exact ih e st h g a w hI
        | false =>
          simp only [cond_false] at h ⊢
          have e2 : qr P root Q0 (true :: p) = qr P root Q0 p := by simp only [qr, hp, cond_true]
          cases e with
          | normal =>
            have h2 := ecode_ok hO hm hnp hc y (true :: p) st _ (by simp only [sub, hp, cond_true]) (by rw [e2]; exact ih) h g a w hI
            rw [e2] at h2; exact h2
          | exit id => exact ih (.exit id) st h g a w hI
          | ret => exact ih .ret st h g a w hI
      | cond x y z => simp only [kr, hp] at h; simp only [qr, hp]; exact ih e st h g a w hI
      | block id x =>
        simp only [kr, hp] at h
        simp only [qr, hp]
        cases e with
        | normal => exact ih .normal st h g a w hI
        | exit j =>
          show (if j = id then qr P root Q0 p .normal a w else qr P root Q0 p (.exit j) a w)
          simp only at h
          cases hb : Nat.beq j id with
          | true => rw [hb] at h; rw [if_pos (beq_true hb)]; exact ih .normal st h g a w hI
          | false => rw [hb] at h; rw [if_neg (fun e => by rw [e, Nat.beq_refl] at hb; simp at hb)]; exact ih (.exit j) st h g a w hI
        | ret => exact ih .ret st h g a w hI
      | loop x =>
        simp only [kr, hp] at h
        simp only [qr, hp]
        cases e with
        | normal =>
          simp only at h
          split at h
          · rename_i ct hcut
            have := stop_ok hc hcut h hI
            simp only [CutOK, hp] at this
            exact this
          · simp at h
        | exit j => exact ih (.exit j) st h g a w hI
        | ret => exact ih .ret st h g a w hI
      | _ => simp [kr, hp] at h
theorem seg_ok (hO : ∀ c ∈ O, Sound P c) (hm : P.follows .mixedOrders = true) (hnp : NoPanic Q0) (hc : Claim P w0 L g0 hp0 root Q0 out cs k) {K0 : Ex → St R → Option (Out R)} (h0 : KOK P w0 L g0 hp0 out K0 Q0)
    {p : List Bool} (h : seg P O cs k root K0 p st = some out) (hI : Inv P w0 L g0 hp0 st g a w) : CutOK P root Q0 p a w := by
  unfold seg at h
  unfold CutOK
  split at h
  · rename_i x hp
    rw [hp]
    have e1 : qr P root Q0 (false :: p) = Exit.then (LW P x (qr P root Q0 p)) (qr P root Q0 p) := by simp only [qr, hp]
    have h1 := ecode_ok hO hm hnp hc x (false :: p) st _ (by simp only [sub, hp]) (kr_ok hO hm hnp hc h0 _) h g a w hI
    rw [e1] at h1
    exact lw_body h1
  · rename_i t x y hp
    rw [hp]
    have e1 : ∀ d, qr P root Q0 (d :: p) = qr P root Q0 p := fun d => by simp only [qr, hp]
    obtain ⟨b, st1, h1, _, _, h2⟩ := part_ok (P := P) (w0 := w0) (L := L) (g0 := g0) (hp0 := hp0) h
    obtain ⟨q1, q2⟩ := h2 g a w hI
    refine wp_cond (t := b) (by simp [Act.eval, Array.getD_eq_getD_getElem?, q1]) ?_
    have hk := kr_ok hO hm hnp hc h0 p
    cases b with
    | true =>
      have h3 := ecode_ok hO hm hnp hc x (false :: p) st1 _ (by simp only [sub, hp, cond_false]) (by rw [e1]; exact hk) (by simpa using h1) g a w q2
      rw [e1] at h3; simpa using h3
    | false =>
      have h3 := ecode_ok hO hm hnp hc y (true :: p) st1 _ (by simp only [sub, hp, cond_true]) (by rw [e1]; exact hk) (by simpa using h1) g a w q2
      rw [e1] at h3; simpa using h3
  · rename_i x y hp
    rw [hp]
    have e1 : qr P root Q0 (false :: p) = Exit.then (y.wp P (qr P root Q0 p)) (qr P root Q0 p) := by simp only [qr, hp, cond_false]
    have e2 : qr P root Q0 (true :: p) = qr P root Q0 p := by simp only [qr, hp, cond_true]
    have hk := kr_ok hO hm hnp hc h0 p
    have h1 := ecode_ok hO hm hnp hc x (false :: p) st _ (by simp only [sub, hp, cond_false]) (by
      rw [e1]
      intro e st1 h1 g1 a1 w1 hI1
      cases e with
      | normal => have h2 := ecode_ok hO hm hnp hc y (true :: p) st1 _ (by simp only [sub, hp, cond_true]) (by rw [e2]; exact hk) h1 g1 a1 w1 hI1
                  rw [e2] at h2; exact h2
      | exit id => exact hk (.exit id) st1 h1 g1 a1 w1 hI1
      | ret => exact hk .ret st1 h1 g1 a1 w1 hI1) h g a w hI
    rw [e1] at h1
    exact wp_seq h1
  · simp at h
theorem claim_ok (hO : ∀ c ∈ O, Sound P c) (hm : P.follows .mixedOrders = true) (hnp : NoPanic Q0) {K0 : Ex → St R → Option (Out R)} (h0 : KOK P w0 L g0 hp0 out K0 Q0) (hz : ∀ c ∈ cs, ∀ st, c.f 0 st = none)
    (hs : ∀ c ∈ cs, ∀ k st out, c.f (k + 1) st = some out → seg P O cs k root K0 c.p st = some out) : ∀ k, Claim P w0 L g0 hp0 root Q0 out cs k
  | 0 => fun c hc st h => by rw [hz c hc] at h; simp at h
  | k + 1 => fun c hc st h g a w hI => seg_ok hO hm hnp (claim_ok hO hm hnp h0 hz hs k) h0 (hs c hc k st out h) hI
end body
theorem number_get {α : Type} : ∀ (l : List α) (n i : Nat), get (number l n) i = if n ≤ i then l[i - n]? else none
  | [], n, i => by simp [number, get]
  | x :: l, n, i => by
    simp only [number]
    rw [get_cons, number_get l (n + 1) i]
    by_cases h : n = i
    · subst h; simp
    · rw [if_neg h]
      by_cases h2 : n ≤ i
      · rw [if_pos h2, if_pos (by omega), show i - n = (i - (n + 1)) + 1 by omega, List.getElem?_cons_succ]
      · rw [if_neg h2, if_neg (by omega)]
theorem number0 {α : Type} (l : List α) (i : Nat) : get (number l 0) i = l[i]? := by rw [number_get]; simp
omit [RowL P R] in
theorem start_ok {w : World} {g : Nat → Value} {args : List V} {hp : List (Blk R)} (h : ArgsOK P w g args hp) {nt : Nat} (hn : args.length ≤ nt) :
    Inv P w (fun n => ∃ (i : Nat) (b : Blk R), hp[i]? = some b ∧ b.mut ∧ HasB g i n b) g hp (start nt args hp) g { tmps := (args.map (concV g)).toArray ++ Array.replicate (nt - (args.map (concV g)).toArray.size) undef, defers := [] } w := by
  have hg : ∀ t v, get (start nt args hp).tm t = some v → args[t]? = some v := fun t v hv => by rwa [start, number0] at hv
  have hh : ∀ i, get (start nt args hp).hp i = hp[i]? := fun i => by rw [start, number0]
  refine ⟨rfl, by simp [start]; omega, fun t v hv _ => ?_, fun t v hv id hid => h.ids v (List.mem_of_getElem? (hg t v hv)) id hid, fun t v hv => (h.plain v (List.mem_of_getElem? (hg t v hv))).2, fun i b hb => ⟨b, by rw [hh]; exact hb, SameKind.refl (h.kind i b hb).dead, h.kind i b hb⟩, fun _ _ => rfl, Nat.le_refl _, rfl, ?_⟩
  · have h1 := hg t v hv
    have h2 : t < args.length := getElem?_lt h1
    rw [Array.getElem?_append_left (by simpa using h2)]
    simp [h1]
  · refine ⟨fun i b hb => h.idB i b (by rw [← hh]; exact hb), fun i b hb => ?_, fun i b hb => h.blk i b (by rw [← hh]; exact hb), fun i b i' b' n hb hb' => h.sep i b i' b' n (by rw [← hh]; exact hb) (by rw [← hh]; exact hb'), fun i b n hb hm hn => .inr ⟨i, b, by rw [← hh]; exact hb, hm, hn⟩, fun i hi => h.one i hi, ⟨rfl, rfl, rfl, Nat.le_refl _, fun _ _ _ => rfl⟩⟩
    exact getElem?_lt (by rw [← hh]; exact hb : hp[i]? = some b)
theorem fn_ok {O : List (Cal R)} (hO : ∀ c ∈ O, Sound P c) (hm : P.follows .mixedOrders = true) {f : FuncId} {fn : Func} {root : Code} {cs : List (Cut R)} (hf : P.funcs[f]? = some fn) (hb : fn.body = some root)
    (hz : ∀ c ∈ cs, ∀ st, c.f 0 st = none) (hs : ∀ c ∈ cs, ∀ k st out, c.f (k + 1) st = some out → seg P O cs k root (kEnd P fn.results.toList) c.p st = some out)
    {k : Nat} {args : List V} {hp : List (Blk R)} {out : Out R} (h : enter P O cs k fn root args hp = some out) : Good P f args hp out := by
  intro w g hA
  unfold enter at h
  cases hn : Nat.ble args.length fn.ntmps with
  | false => rw [hn] at h; simp at h
  | true =>
    rw [hn] at h
    simp only [cond_true] at h
    have hI := start_ok hA (Nat.le_of_ble_eq_true hn)
    refine calls_of_wp hf hb ?_
    have h0 : KOK P w (fun n => ∃ (i : Nat) (b : Blk R), hp[i]? = some b ∧ b.mut ∧ HasB g i n b) g hp out (kEnd P fn.results.toList) (bodyPost P fn fun e w' => ∃ c g', e = .returned c ∧ ResOK P w g hp out c w' g') := by
      intro e st hk g1 a1 w1 hI1
      have fin : ∀ hfin : finish P fn.results.toList st = some out, a1.defers = [] ∧ ∃ v, (results fn a1.tmps).run P w1 = .ok v w1 ∧ ∃ c g', Ending.returned v = .returned c ∧ ResOK P w g hp out c w1 g' := fun hfin => by
        obtain ⟨c, g', q1, q2⟩ := finish_ok hI1 hfin
        exact ⟨hI1.defers, c, q1, c, g', rfl, q2⟩
      cases e with
      | normal => exact fin hk
      | ret => exact fin hk
      | exit id => simp [kEnd] at hk
    have hnp : NoPanic (bodyPost P fn fun e w' => ∃ c g', e = .returned c ∧ ResOK P w g hp out c w' g') := by
      rintro c a w ⟨_, _, _, h, _⟩; cases h
    exact ecode_ok hO hm hnp (claim_ok hO hm hnp h0 hz hs k) root [] _ _ rfl h0 h g _ w hI
end
end Go.Proofs.Ytmfgajbkcnlkcaa.AI
namespace Go.Proofs.Ytmfgajbkcnlkcaa.AI
set_option linter.all false
open Go Go.RowKit
section
variable {R : Type} [RowT R] {P : Program} [RowL P R]
theorem ro_not_mut {b : Blk R} (h : isRo b = true) : ¬ b.mut := by
  cases b with
  | rows k r => cases k with
    | zero => exact fun h => h
    | succ k => simp [isRo] at h
  | box _ _ => simp [isRo] at h
  | dead => exact fun h => h
theorem ro_rows {b : Blk R} (h : isRo b = true) : ∃ r, b = .rows 0 r := by
  cases b with
  | rows k r => cases k with
    | zero => exact ⟨r, rfl⟩
    | succ k => simp [isRo] at h
  | box _ _ => simp [isRo] at h
  | dead => simp [isRo] at h
theorem args_ro {w : World} {g : Nat → Value} {args : List V} {hp : List (Blk R)} (hro : ∀ b ∈ hp, isRo b = true) (hids : ∀ v ∈ args, (∀ id ∈ idsV v, id < hp.length) ∧ v ≠ .no ∧ EpOK P (number hp 0) v)
    (hblk : ∀ (i : Nat) b, hp[i]? = some b → BlkOK P g w w.heap.size i b) : ArgsOK P w g args hp := by
  have ro : ∀ (i : Nat) b, hp[i]? = some b → ∃ r, b = .rows 0 r := fun i b hb => ro_rows (hro b (List.mem_of_getElem? hb))
  refine ⟨fun v hv => (hids v hv).1, fun i b hb j hj => ?_, hblk, fun i b i' b' n hb _ _ hm => ?_, fun i hi => ?_, fun i b hb => ?_, fun v hv => (hids v hv).2⟩
  · obtain ⟨r, rfl⟩ := ro i b hb; simp [idsB] at hj
  · exact absurd hm (ro_not_mut (hro b (List.mem_of_getElem? hb)))
  · obtain ⟨r, hr⟩ := ro i _ (List.getElem?_eq_getElem hi)
    have := hblk i _ (List.getElem?_eq_getElem hi)
    rw [hr] at this
    obtain ⟨A, c, hg, _⟩ := this
    rw [hg]; rfl
  · obtain ⟨r, rfl⟩ := ro i b hb; trivial
theorem good_ro {f : FuncId} {args : List V} {hp : List (Blk R)} {res : List W} (hro : ∀ b ∈ hp, isRo b = true) (hres : ∀ y ∈ res, idsW y = [])
    (h : ∀ w g, ArgsOK P w g args hp → Calls P f (args.map (concV g)).toArray w fun e w' => e = .returned (resC g res) ∧ Below w.heap.size w w') : Good P f args hp ⟨res, hp⟩ := by
  intro w g hA
  refine (h w g hA).mono ?_
  rintro e w' ⟨rfl, hb⟩
  refine ⟨_, g, rfl, rfl, fun _ _ => rfl, fun y hy id hid => by rw [hres y hy] at hid; simp at hid, hA.idB, fun i b hi => (hA.blk i b hi).move fun n hn => hb.block n ((hA.blk i b hi).lt hn), hA.sep, fun i b hi => ⟨b, hi, SameKind.refl (hA.kind i b hi).dead⟩, fun i b hi hib => ?_, hA.one, ⟨hb.os, hb.tape, hb.output, hb.size, fun k hk _ => hb.block k hk⟩⟩
  have := getElem?_lt hib
  exact absurd hi (by show ¬ hp.length ≤ i; have : i < hp.length := this; omega)
theorem own_block {w : World} {base n size : Nat} {t : TypeId} {v : Value} {cs : List Value} (h : w.ownsRow base t size v n cs) : v.oneCell' = true ∧ ∀ m, blkOf v = some m → base ≤ m := by
  rcases h.2 with ⟨hv, _⟩ | ⟨b, cap, cur, hv, hb, _⟩
  · subst hv; exact ⟨rfl, fun m hm => by simp [blkOf] at hm⟩
  · subst hv; exact ⟨rfl, fun m hm => by simp only [blkOf, Option.some.injEq] at hm; omega⟩
theorem good_new {f : FuncId} {args : List V} {hp : List (Blk R)} {r : R} (hro : ∀ b ∈ hp, isRo b = true)
    (h : ∀ w g, ArgsOK P w g args hp → Calls P f (args.map (concV g)).toArray w fun e w' => ∃ v, e = .returned v ∧ w'.ownsRow w.heap.size (RowT.ty r) (P.cellsOf (RowT.ty r)) v (RowT.len r) (flat r) ∧ Below w.heap.size w w') :
    Good P f args hp ⟨[.c (.rw hp.length)], hp ++ [.rows 2 r]⟩ := by
  intro w g hA
  refine (h w g hA).mono ?_
  rintro e w' ⟨v, rfl, hown, hb⟩
  obtain ⟨hone, hblk⟩ := own_block hown
  have hs : upd g hp.length v hp.length = v := upd_same ..
  have ho : ∀ i, i < hp.length → upd g hp.length v i = g i := fun i hi => upd_other g v (by omega)
  have cas : ∀ (i : Nat) b, (hp ++ [.rows 2 r])[i]? = some b → (hp[i]? = some b ∧ i < hp.length ∧ ∃ q, b = .rows 0 q) ∨ (i = hp.length ∧ b = .rows 2 r) := by
    intro i b hi
    rcases Nat.lt_or_ge i hp.length with q | q
    · rw [List.getElem?_append_left q] at hi; exact .inl ⟨hi, q, ro_rows (hro b (List.mem_of_getElem? hi))⟩
    · rw [List.getElem?_append_right q] at hi
      have := getElem?_lt hi
      have e0 : i - hp.length = 0 := by simpa using this
      rw [e0] at hi; simp only [List.getElem?_cons_zero, Option.some.injEq] at hi
      exact .inr ⟨by omega, hi.symm⟩
  have old : ∀ (i : Nat) b, hp[i]? = some b → BlkOK P (upd g hp.length v) w' w.heap.size i b := fun i b hi => by
    refine ((hA.blk i b hi).move fun n hn => hb.block n ((hA.blk i b hi).lt hn)).name (ho i (getElem?_lt hi)) fun j hj => ho j (hA.idB i b hi j hj)
  refine ⟨_, upd g hp.length v, rfl, by simp only [resC, concW, conc, hs], ho, fun y hy id hid => ?_, fun i b hi j hj => ?_, fun i b hi => ?_, fun i b i' b' n hi hi' hne hm hn => ?_, fun i b hi => ⟨b, by rw [List.getElem?_append_left (getElem?_lt hi)]; exact hi, SameKind.refl (hA.kind i b hi).dead⟩, fun i b hi hib => ?_, fun i hi => ?_, ⟨hb.os, hb.tape, hb.output, hb.size, fun k hk _ => hb.block k hk⟩⟩
  · simp only [List.mem_singleton] at hy; subst hy
    simp only [idsW, idsC, List.mem_singleton] at hid; subst hid
    simp
  · rcases cas i b hi with ⟨_, _, q, rfl⟩ | ⟨_, rfl⟩ <;> simp [idsB] at hj
  · rcases cas i b hi with ⟨h1, _, _⟩ | ⟨rfl, rfl⟩
    · exact old i b h1
    · show w'.ownsRow (if 1 = 1 then w.heap.size else 0) _ _ (upd g hp.length v hp.length) _ _
      rw [hs, if_pos rfl]; exact hown
  · rcases cas i b hi with ⟨_, _, q, rfl⟩ | ⟨rfl, rfl⟩
    · exact hm.elim
    · rcases cas i' b' hi' with ⟨h1, h2, q, rfl⟩ | ⟨rfl, _⟩
      · intro hn'
        have h3 := hblk n (by rw [← hs]; exact hn)
        rw [HasB.name (ho i' h2)] at hn'
        have := (hA.blk i' _ h1).lt hn'
        omega
      · exact absurd rfl hne
  · rcases cas i b hib with ⟨_, h2, _⟩ | ⟨rfl, rfl⟩
    · omega
    · exact ⟨⟨r, rfl⟩, fun n hn => hblk n (by rw [← hs]; exact hn)⟩
  · simp only [List.length_append, List.length_singleton] at hi
    rcases Nat.lt_or_ge i hp.length with q | q
    · rw [ho i q]; exact hA.one i q
    · rw [show i = hp.length by omega, hs]; exact hone
omit [RowL P R] in
theorem calls_ro {f : FuncId} {args : List V} {hp : List (Blk R)} {out : Out R} {w : World} {g : Nat → Value} (hro : ∀ b ∈ hp, isRo b = true) (hres : ∀ y ∈ out.res, idsW y = []) (h : Good P f args hp out) (hA : ArgsOK P w g args hp) :
    Calls P f (args.map (concV g)).toArray w fun e w' => e = .returned (resC g out.res) ∧ Below w.heap.size w w' := by
  refine (h w g hA).mono ?_
  rintro e w' ⟨c, g', rfl, hr⟩
  refine ⟨by rw [hr.val, resC_congr (G := g') (G' := g)]; exact List.map_congr_left fun y hy => concW_congr fun id hid => by rw [hres y hy] at hid; simp at hid, hr.frame.os, hr.frame.tape, hr.frame.output, hr.frame.size, fun k hk => hr.frame.block k hk ?_⟩
  rintro ⟨i, b, hb, hm, _⟩
  exact ro_not_mut (hro b (List.mem_of_getElem? hb)) hm
theorem sound_of {f : FuncId} {lent : Bool} {sem : Mean R} (fn : ∃ fn, P.funcs[f]? = some fn ∧ (fn.name == "runtime.NumGoroutine") = false ∧ fn.body.isNone = false)
    (ok : ∀ (k : Nat) (args : List V) (hp : List (Blk R)) (Z : Type) (K : Out R → Option Z) (z : Z), sem k args hp Z K = some z → ∃ out, K out = some z ∧ Good P f args hp out) : Sound P ⟨f, lent, sem⟩ := ⟨fn, ok⟩
def body (f : Func) : Code := f.body.getD .skip
def Lo {Z : Type} (a b : Option Z) : Prop := ∀ z, b = some z → a = some z
theorem Lo.of {Z : Type} {a b c : Option Z} (e : a = b) (h : Lo b c) : Lo a c := e ▸ h
theorem Lo.refl {Z : Type} (a : Option Z) : Lo a a := fun _ h => h
theorem Lo.eq {Z : Type} {a b : Option Z} (e : a = b) : Lo a b := fun _ h => e.trans h
theorem ite_I {X Z : Type} {p q : Prop} {i : Decidable p} {j : Decidable q} {a b : Option Z} {c d : Option X} {f : X → Option Z} (e : p ↔ q) (h : p → Lo a (c.bind f)) (h' : ¬p → Lo b (d.bind f)) : Lo (@ite _ p i a b) (Option.bind (@ite _ q j c d) f) := by
  by_cases t : p
  · rw [if_pos t, if_pos (e.1 t)]; exact h t
  · rw [if_neg t, if_neg (fun u => t (e.2 u))]; exact h' t
theorem ite_L {X Z : Type} {p : Prop} {i : Decidable p} {a b : Option Z} {c d : Option X} {f : X → Option Z} (h : p → Lo a (c.bind f)) (h' : ¬p → Lo b (d.bind f)) : Lo (@ite _ p i a b) (Option.bind (@ite _ p i c d) f) := ite_I Iff.rfl h h'
theorem drop_L {Z : Type} {p : Prop} {i : Decidable p} {a b c : Option Z} (q : p) (h : Lo a c) : Lo (@ite _ p i a b) c := by rw [if_pos q]; exact h
theorem bind_L {X Y Z : Type} {x : Option Y} {g' : Y → Option Z} {g : Y → Option X} {f : X → Option Z} (h : ∀ y, Lo (g' y) ((g y).bind f)) : Lo (x.bind g') ((x.bind g).bind f) := by
  cases x with
  | none => exact Lo.refl _
  | some y => exact h y
theorem some_L {X Z : Type} {a : X} {f : X → Option Z} {z : Option Z} (h : Lo z (f a)) : Lo z ((some a).bind f) := h
theorem let_L {X Y Z : Type} {a : Y} {g : Y → Option X} {f : X → Option Z} {z : Option Z} (h : Lo z ((g a).bind f)) : Lo z (((some a).bind g).bind f) := h
theorem letB_L {X Y Z : Type} {a : Y} {g' : Y → Option Z} {g : Y → Option X} {f : X → Option Z} (h : ∀ y, y = a → Lo (g' y) ((g y).bind f)) : Lo ((some a).bind g') (((some a).bind g).bind f) := h a rfl
theorem letT_L {Y Z : Type} {a : Y} {g : Y → Option Z} {c : Option Z} (h : Lo (g a) c) : Lo ((some a).bind g) c := h
theorem none_L {X Z : Type} {f : X → Option Z} {z : Option Z} : Lo z ((none : Option X).bind f) := fun _ e => by simp at e
end
end Go.Proofs.Ytmfgajbkcnlkcaa.AI
namespace Go.Proofs.Ytmfgajbkcnlkcaa.AI
set_option linter.all false
open Go Go.RowKit Go.Proofs.YtmfgajbkcnlkcaaW.PrintWords Go.Proofs.Ytmfgajbkcnlkcaa.P
inductive Rw where
  | e50 (l : List S50)
  | e64 (l : List S64)
  | e88 (l : List S88)
  | e90 (l : List S90)
  | e93 (l : List S93)
  | e96 (l : List S96)
  | e106 (l : List S106)
  | e108 (l : List S108)
  | e110 (l : List S110)
  | e112 (l : List S112)
  | eI (l : List Int)
def n50 (x : S50) : List Sc := [.i .i64 x.f0, .i .i64 x.f1, .i .i64 x.f2, .i .i64 x.f3, .i .i64 x.f4, .i .i64 x.f5, .i .i64 x.f6, .i .i64 x.f7]
def m50 : List Sc → Option S50
  | [.i .i64 f0, .i .i64 f1, .i .i64 f2, .i .i64 f3, .i .i64 f4, .i .i64 f5, .i .i64 f6, .i .i64 f7] => some ⟨f0, f1, f2, f3, f4, f5, f6, f7⟩
  | _ => none
theorem m50_eq {c : List Sc} {x : S50} (h : m50 c = some x) : n50 x = c := by
  unfold m50 at h
  split at h
  · simp only [Option.some.injEq] at h; subst h; rfl
  · simp at h
theorem n50_eq {w : World} {x : S50} {cs : List Value} : k50.K w x cs ↔ cs = (n50 x).map Sc.v := ⟨fun h => k50_open h, fun h => h ▸ k50_mk w x⟩
theorem j50 : (Try.prog.info? 50).map (fun i => (i.zero, i.size, i.bytes)) = some (some (.agg #[.int .i64 0, .int .i64 0, .int .i64 0, .int .i64 0, .int .i64 0, .int .i64 0, .int .i64 0, .int .i64 0]), 8, 64) := by kernel_rfl
theorem i50_eq : ∃ i z, Try.prog.info? 50 = some i ∧ i.zero = some z ∧ z.cells.size = i.size ∧ z.cells.toList = (n50 z50).map Sc.v ∧ i.size = 8 ∧ 0 < i.bytes := by
  have h := j50
  cases hi : Try.prog.info? 50 with
  | none => rw [hi] at h; simp at h
  | some i =>
    rw [hi] at h
    simp only [Option.map_some, Option.some.injEq, Prod.mk.injEq] at h
    obtain ⟨h1, h2, h3⟩ := h
    exact ⟨i, _, rfl, h1, by rw [h2]; rfl, rfl, h2, by omega⟩
def n64 (x : S64) : List Sc := [.i .i64 x.f0, .i .i64 x.f1, .i .i64 x.f2, .i .i64 x.f3, .i .i64 x.f4, .i .i64 x.f5, .i .i64 x.f6, .i .i64 x.f7]
def m64 : List Sc → Option S64
  | [.i .i64 f0, .i .i64 f1, .i .i64 f2, .i .i64 f3, .i .i64 f4, .i .i64 f5, .i .i64 f6, .i .i64 f7] => some ⟨f0, f1, f2, f3, f4, f5, f6, f7⟩
  | _ => none
theorem m64_eq {c : List Sc} {x : S64} (h : m64 c = some x) : n64 x = c := by
  unfold m64 at h
  split at h
  · simp only [Option.some.injEq] at h; subst h; rfl
  · simp at h
theorem n64_eq {w : World} {x : S64} {cs : List Value} : k64.K w x cs ↔ cs = (n64 x).map Sc.v := ⟨fun h => k64_open h, fun h => h ▸ k64_mk w x⟩
theorem j64 : (Try.prog.info? 64).map (fun i => (i.zero, i.size, i.bytes)) = some (some (.agg #[.int .i64 0, .int .i64 0, .int .i64 0, .int .i64 0, .int .i64 0, .int .i64 0, .int .i64 0, .int .i64 0]), 8, 64) := by kernel_rfl
theorem i64_eq : ∃ i z, Try.prog.info? 64 = some i ∧ i.zero = some z ∧ z.cells.size = i.size ∧ z.cells.toList = (n64 z64).map Sc.v ∧ i.size = 8 ∧ 0 < i.bytes := by
  have h := j64
  cases hi : Try.prog.info? 64 with
  | none => rw [hi] at h; simp at h
  | some i =>
    rw [hi] at h
    simp only [Option.map_some, Option.some.injEq, Prod.mk.injEq] at h
    obtain ⟨h1, h2, h3⟩ := h
    exact ⟨i, _, rfl, h1, by rw [h2]; rfl, rfl, h2, by omega⟩
def n88 (x : S88) : List Sc := [.i .i64 x.f0, .i .i64 x.f1]
def m88 : List Sc → Option S88
  | [.i .i64 f0, .i .i64 f1] => some ⟨f0, f1⟩
  | _ => none
theorem m88_eq {c : List Sc} {x : S88} (h : m88 c = some x) : n88 x = c := by
  unfold m88 at h
  split at h
  · simp only [Option.some.injEq] at h; subst h; rfl
  · simp at h
theorem n88_eq {w : World} {x : S88} {cs : List Value} : k88.K w x cs ↔ cs = (n88 x).map Sc.v := ⟨fun h => k88_open h, fun h => h ▸ k88_mk w x⟩
theorem j88 : (Try.prog.info? 88).map (fun i => (i.zero, i.size, i.bytes)) = some (some (.agg #[.int .i64 0, .int .i64 0]), 2, 16) := by kernel_rfl
theorem i88_eq : ∃ i z, Try.prog.info? 88 = some i ∧ i.zero = some z ∧ z.cells.size = i.size ∧ z.cells.toList = (n88 z88).map Sc.v ∧ i.size = 2 ∧ 0 < i.bytes := by
  have h := j88
  cases hi : Try.prog.info? 88 with
  | none => rw [hi] at h; simp at h
  | some i =>
    rw [hi] at h
    simp only [Option.map_some, Option.some.injEq, Prod.mk.injEq] at h
    obtain ⟨h1, h2, h3⟩ := h
    exact ⟨i, _, rfl, h1, by rw [h2]; rfl, rfl, h2, by omega⟩
def n90 (x : S90) : List Sc := [.i .i64 x.f0, .i .i64 x.f1]
def m90 : List Sc → Option S90
  | [.i .i64 f0, .i .i64 f1] => some ⟨f0, f1⟩
  | _ => none
theorem m90_eq {c : List Sc} {x : S90} (h : m90 c = some x) : n90 x = c := by
  unfold m90 at h
  split at h
  · simp only [Option.some.injEq] at h; subst h; rfl
  · simp at h
theorem n90_eq {w : World} {x : S90} {cs : List Value} : k90.K w x cs ↔ cs = (n90 x).map Sc.v := ⟨fun h => k90_open h, fun h => h ▸ k90_mk w x⟩
theorem j90 : (Try.prog.info? 90).map (fun i => (i.zero, i.size, i.bytes)) = some (some (.agg #[.int .i64 0, .int .i64 0]), 2, 16) := by kernel_rfl
theorem i90_eq : ∃ i z, Try.prog.info? 90 = some i ∧ i.zero = some z ∧ z.cells.size = i.size ∧ z.cells.toList = (n90 z90).map Sc.v ∧ i.size = 2 ∧ 0 < i.bytes := by
  have h := j90
  cases hi : Try.prog.info? 90 with
  | none => rw [hi] at h; simp at h
  | some i =>
    rw [hi] at h
    simp only [Option.map_some, Option.some.injEq, Prod.mk.injEq] at h
    obtain ⟨h1, h2, h3⟩ := h
    exact ⟨i, _, rfl, h1, by rw [h2]; rfl, rfl, h2, by omega⟩
def n93 (x : S93) : List Sc := [.i .i64 x.f0, .i .i64 x.f1, .i .i64 x.f2]
def m93 : List Sc → Option S93
  | [.i .i64 f0, .i .i64 f1, .i .i64 f2] => some ⟨f0, f1, f2⟩
  | _ => none
theorem m93_eq {c : List Sc} {x : S93} (h : m93 c = some x) : n93 x = c := by
  unfold m93 at h
  split at h
  · simp only [Option.some.injEq] at h; subst h; rfl
  · simp at h
theorem n93_eq {w : World} {x : S93} {cs : List Value} : k93.K w x cs ↔ cs = (n93 x).map Sc.v := ⟨fun h => k93_open h, fun h => h ▸ k93_mk w x⟩
theorem j93 : (Try.prog.info? 93).map (fun i => (i.zero, i.size, i.bytes)) = some (some (.agg #[.int .i64 0, .int .i64 0, .int .i64 0]), 3, 24) := by kernel_rfl
theorem i93_eq : ∃ i z, Try.prog.info? 93 = some i ∧ i.zero = some z ∧ z.cells.size = i.size ∧ z.cells.toList = (n93 z93).map Sc.v ∧ i.size = 3 ∧ 0 < i.bytes := by
  have h := j93
  cases hi : Try.prog.info? 93 with
  | none => rw [hi] at h; simp at h
  | some i =>
    rw [hi] at h
    simp only [Option.map_some, Option.some.injEq, Prod.mk.injEq] at h
    obtain ⟨h1, h2, h3⟩ := h
    exact ⟨i, _, rfl, h1, by rw [h2]; rfl, rfl, h2, by omega⟩
def n96 (x : S96) : List Sc := [.i .i64 x.f0, .i .i64 x.f1, .i .i64 x.f2, .i .i64 x.f3, .i .i64 x.f4]
def m96 : List Sc → Option S96
  | [.i .i64 f0, .i .i64 f1, .i .i64 f2, .i .i64 f3, .i .i64 f4] => some ⟨f0, f1, f2, f3, f4⟩
  | _ => none
theorem m96_eq {c : List Sc} {x : S96} (h : m96 c = some x) : n96 x = c := by
  unfold m96 at h
  split at h
  · simp only [Option.some.injEq] at h; subst h; rfl
  · simp at h
theorem n96_eq {w : World} {x : S96} {cs : List Value} : k96.K w x cs ↔ cs = (n96 x).map Sc.v := ⟨fun h => k96_open h, fun h => h ▸ k96_mk w x⟩
theorem n96_eqM {w : World} {base : Nat} {ok : Nat → Prop} {x : S96} {cs : List Value} : k96.M w base ok x cs ↔ cs = (n96 x).map Sc.v := ⟨fun h => k96_openM h, fun h => h ▸ k96_mkM w base ok x⟩
theorem j96 : (Try.prog.info? 96).map (fun i => (i.zero, i.size, i.bytes)) = some (some (.agg #[.int .i64 0, .int .i64 0, .int .i64 0, .int .i64 0, .int .i64 0]), 5, 40) := by kernel_rfl
theorem i96_eq : ∃ i z, Try.prog.info? 96 = some i ∧ i.zero = some z ∧ z.cells.size = i.size ∧ z.cells.toList = (n96 z96).map Sc.v ∧ i.size = 5 ∧ 0 < i.bytes := by
  have h := j96
  cases hi : Try.prog.info? 96 with
  | none => rw [hi] at h; simp at h
  | some i =>
    rw [hi] at h
    simp only [Option.map_some, Option.some.injEq, Prod.mk.injEq] at h
    obtain ⟨h1, h2, h3⟩ := h
    exact ⟨i, _, rfl, h1, by rw [h2]; rfl, rfl, h2, by omega⟩
def n106 (x : S106) : List Sc := [.i .i64 x.f0, .i .i64 x.f1]
def m106 : List Sc → Option S106
  | [.i .i64 f0, .i .i64 f1] => some ⟨f0, f1⟩
  | _ => none
theorem m106_eq {c : List Sc} {x : S106} (h : m106 c = some x) : n106 x = c := by
  unfold m106 at h
  split at h
  · simp only [Option.some.injEq] at h; subst h; rfl
  · simp at h
theorem n106_eq {w : World} {x : S106} {cs : List Value} : k106.K w x cs ↔ cs = (n106 x).map Sc.v := ⟨fun h => k106_open h, fun h => h ▸ k106_mk w x⟩
theorem j106 : (Try.prog.info? 106).map (fun i => (i.zero, i.size, i.bytes)) = some (some (.agg #[.int .i64 0, .int .i64 0]), 2, 16) := by kernel_rfl
theorem i106_eq : ∃ i z, Try.prog.info? 106 = some i ∧ i.zero = some z ∧ z.cells.size = i.size ∧ z.cells.toList = (n106 z106).map Sc.v ∧ i.size = 2 ∧ 0 < i.bytes := by
  have h := j106
  cases hi : Try.prog.info? 106 with
  | none => rw [hi] at h; simp at h
  | some i =>
    rw [hi] at h
    simp only [Option.map_some, Option.some.injEq, Prod.mk.injEq] at h
    obtain ⟨h1, h2, h3⟩ := h
    exact ⟨i, _, rfl, h1, by rw [h2]; rfl, rfl, h2, by omega⟩
def n108 (x : S108) : List Sc := [.i .i64 x.f0, .i .i64 x.f1]
def m108 : List Sc → Option S108
  | [.i .i64 f0, .i .i64 f1] => some ⟨f0, f1⟩
  | _ => none
theorem m108_eq {c : List Sc} {x : S108} (h : m108 c = some x) : n108 x = c := by
  unfold m108 at h
  split at h
  · simp only [Option.some.injEq] at h; subst h; rfl
  · simp at h
theorem n108_eq {w : World} {x : S108} {cs : List Value} : k108.K w x cs ↔ cs = (n108 x).map Sc.v := ⟨fun h => k108_open h, fun h => h ▸ k108_mk w x⟩
theorem j108 : (Try.prog.info? 108).map (fun i => (i.zero, i.size, i.bytes)) = some (some (.agg #[.int .i64 0, .int .i64 0]), 2, 16) := by kernel_rfl
theorem i108_eq : ∃ i z, Try.prog.info? 108 = some i ∧ i.zero = some z ∧ z.cells.size = i.size ∧ z.cells.toList = (n108 z108).map Sc.v ∧ i.size = 2 ∧ 0 < i.bytes := by
  have h := j108
  cases hi : Try.prog.info? 108 with
  | none => rw [hi] at h; simp at h
  | some i =>
    rw [hi] at h
    simp only [Option.map_some, Option.some.injEq, Prod.mk.injEq] at h
    obtain ⟨h1, h2, h3⟩ := h
    exact ⟨i, _, rfl, h1, by rw [h2]; rfl, rfl, h2, by omega⟩
def n110 (x : S110) : List Sc := [.i .i64 x.f0, .i .i64 x.f1, .i .i64 x.f2]
def m110 : List Sc → Option S110
  | [.i .i64 f0, .i .i64 f1, .i .i64 f2] => some ⟨f0, f1, f2⟩
  | _ => none
theorem m110_eq {c : List Sc} {x : S110} (h : m110 c = some x) : n110 x = c := by
  unfold m110 at h
  split at h
  · simp only [Option.some.injEq] at h; subst h; rfl
  · simp at h
theorem n110_eq {w : World} {x : S110} {cs : List Value} : k110.K w x cs ↔ cs = (n110 x).map Sc.v := ⟨fun h => k110_open h, fun h => h ▸ k110_mk w x⟩
theorem j110 : (Try.prog.info? 110).map (fun i => (i.zero, i.size, i.bytes)) = some (some (.agg #[.int .i64 0, .int .i64 0, .int .i64 0]), 3, 24) := by kernel_rfl
theorem i110_eq : ∃ i z, Try.prog.info? 110 = some i ∧ i.zero = some z ∧ z.cells.size = i.size ∧ z.cells.toList = (n110 z110).map Sc.v ∧ i.size = 3 ∧ 0 < i.bytes := by
  have h := j110
  cases hi : Try.prog.info? 110 with
  | none => rw [hi] at h; simp at h
  | some i =>
    rw [hi] at h
    simp only [Option.map_some, Option.some.injEq, Prod.mk.injEq] at h
    obtain ⟨h1, h2, h3⟩ := h
    exact ⟨i, _, rfl, h1, by rw [h2]; rfl, rfl, h2, by omega⟩
def n112 (x : S112) : List Sc := [.i .i64 x.f0, .i .i64 x.f1, .i .i64 x.f2, .i .i64 x.f3, .i .i64 x.f4]
def m112 : List Sc → Option S112
  | [.i .i64 f0, .i .i64 f1, .i .i64 f2, .i .i64 f3, .i .i64 f4] => some ⟨f0, f1, f2, f3, f4⟩
  | _ => none
theorem m112_eq {c : List Sc} {x : S112} (h : m112 c = some x) : n112 x = c := by
  unfold m112 at h
  split at h
  · simp only [Option.some.injEq] at h; subst h; rfl
  · simp at h
theorem n112_eq {w : World} {x : S112} {cs : List Value} : k112.K w x cs ↔ cs = (n112 x).map Sc.v := ⟨fun h => k112_open h, fun h => h ▸ k112_mk w x⟩
theorem j112 : (Try.prog.info? 112).map (fun i => (i.zero, i.size, i.bytes)) = some (some (.agg #[.int .i64 0, .int .i64 0, .int .i64 0, .int .i64 0, .int .i64 0]), 5, 40) := by kernel_rfl
theorem i112_eq : ∃ i z, Try.prog.info? 112 = some i ∧ i.zero = some z ∧ z.cells.size = i.size ∧ z.cells.toList = (n112 z112).map Sc.v ∧ i.size = 5 ∧ 0 < i.bytes := by
  have h := j112
  cases hi : Try.prog.info? 112 with
  | none => rw [hi] at h; simp at h
  | some i =>
    rw [hi] at h
    simp only [Option.map_some, Option.some.injEq, Prod.mk.injEq] at h
    obtain ⟨h1, h2, h3⟩ := h
    exact ⟨i, _, rfl, h1, by rw [h2]; rfl, rfl, h2, by omega⟩
def nI (x : Int) : List Sc := [.i .i64 x]
def mI : List Sc → Option Int
  | [.i .i64 x] => some x
  | _ => none
theorem mI_eq {c : List Sc} {x : Int} (h : mI c = some x) : nI x = c := by
  unfold mI at h
  split at h
  · simp only [Option.some.injEq] at h; subst h; rfl
  · simp at h
theorem j3 : (Try.prog.info? 3).map (fun i => (i.zero, i.size, i.bytes)) = some (some (.int .i64 0), 1, 8) := by kernel_rfl
theorem iI_eq : ∃ i z, Try.prog.info? 3 = some i ∧ i.zero = some z ∧ z.cells.size = i.size ∧ z.cells.toList = (nI 0).map Sc.v ∧ i.size = 1 ∧ 0 < i.bytes := by
  have h := j3
  cases hi : Try.prog.info? 3 with
  | none => rw [hi] at h; simp at h
  | some i =>
    rw [hi] at h
    simp only [Option.map_some, Option.some.injEq, Prod.mk.injEq] at h
    obtain ⟨h1, h2, h3⟩ := h
    exact ⟨i, _, rfl, h1, by rw [h2]; rfl, rfl, h2, by omega⟩
instance : RowT Rw where
  ty := fun
    | .e50 _ => 50
    | .e64 _ => 64
    | .e88 _ => 88
    | .e90 _ => 90
    | .e93 _ => 93
    | .e96 _ => 96
    | .e106 _ => 106
    | .e108 _ => 108
    | .e110 _ => 110
    | .e112 _ => 112
    | .eI _ => 3
  cel := fun
    | .e50 l => l.map n50
    | .e64 l => l.map n64
    | .e88 l => l.map n88
    | .e90 l => l.map n90
    | .e93 l => l.map n93
    | .e96 l => l.map n96
    | .e106 l => l.map n106
    | .e108 l => l.map n108
    | .e110 l => l.map n110
    | .e112 l => l.map n112
    | .eI l => l.map nI
  len := fun
    | .e50 l => l.length
    | .e64 l => l.length
    | .e88 l => l.length
    | .e90 l => l.length
    | .e93 l => l.length
    | .e96 l => l.length
    | .e106 l => l.length
    | .e108 l => l.length
    | .e110 l => l.length
    | .e112 l => l.length
    | .eI l => l.length
  elt := fun
    | .e50 l, i => n50 (l.getD i z50)
    | .e64 l, i => n64 (l.getD i z64)
    | .e88 l, i => n88 (l.getD i z88)
    | .e90 l, i => n90 (l.getD i z90)
    | .e93 l, i => n93 (l.getD i z93)
    | .e96 l, i => n96 (l.getD i z96)
    | .e106 l, i => n106 (l.getD i z106)
    | .e108 l, i => n108 (l.getD i z108)
    | .e110 l, i => n110 (l.getD i z110)
    | .e112 l, i => n112 (l.getD i z112)
    | .eI l, i => nI (l.getD i 0)
  nil := fun t => cond (Nat.beq t 50) (some (.e50 [])) (cond (Nat.beq t 64) (some (.e64 [])) (cond (Nat.beq t 88) (some (.e88 [])) (cond (Nat.beq t 90) (some (.e90 [])) (cond (Nat.beq t 93) (some (.e93 [])) (cond (Nat.beq t 96) (some (.e96 [])) (cond (Nat.beq t 106) (some (.e106 [])) (cond (Nat.beq t 108) (some (.e108 [])) (cond (Nat.beq t 110) (some (.e110 [])) (cond (Nat.beq t 112) (some (.e112 [])) (cond (Nat.beq t 3) (some (.eI [])) (none)))))))))))
  zer := fun t n => cond (Nat.beq t 50) (some (.e50 (List.replicate n z50))) (cond (Nat.beq t 64) (some (.e64 (List.replicate n z64))) (cond (Nat.beq t 88) (some (.e88 (List.replicate n z88))) (cond (Nat.beq t 90) (some (.e90 (List.replicate n z90))) (cond (Nat.beq t 93) (some (.e93 (List.replicate n z93))) (cond (Nat.beq t 96) (some (.e96 (List.replicate n z96))) (cond (Nat.beq t 106) (some (.e106 (List.replicate n z106))) (cond (Nat.beq t 108) (some (.e108 (List.replicate n z108))) (cond (Nat.beq t 110) (some (.e110 (List.replicate n z110))) (cond (Nat.beq t 112) (some (.e112 (List.replicate n z112))) (cond (Nat.beq t 3) (some (.eI (List.replicate n 0))) (none)))))))))))
  snoc := fun
    | .e50 l, c => match m50 c with
      | some x => some (.e50 (l ++ [x]))
      | none => none
    | .e64 l, c => match m64 c with
      | some x => some (.e64 (l ++ [x]))
      | none => none
    | .e88 l, c => match m88 c with
      | some x => some (.e88 (l ++ [x]))
      | none => none
    | .e90 l, c => match m90 c with
      | some x => some (.e90 (l ++ [x]))
      | none => none
    | .e93 l, c => match m93 c with
      | some x => some (.e93 (l ++ [x]))
      | none => none
    | .e96 l, c => match m96 c with
      | some x => some (.e96 (l ++ [x]))
      | none => none
    | .e106 l, c => match m106 c with
      | some x => some (.e106 (l ++ [x]))
      | none => none
    | .e108 l, c => match m108 c with
      | some x => some (.e108 (l ++ [x]))
      | none => none
    | .e110 l, c => match m110 c with
      | some x => some (.e110 (l ++ [x]))
      | none => none
    | .e112 l, c => match m112 c with
      | some x => some (.e112 (l ++ [x]))
      | none => none
    | .eI l, c => match mI c with
      | some x => some (.eI (l ++ [x]))
      | none => none
  app := fun
    | .e50 l, .e50 m => some (.e50 (l ++ m))
    | .e64 l, .e64 m => some (.e64 (l ++ m))
    | .e88 l, .e88 m => some (.e88 (l ++ m))
    | .e90 l, .e90 m => some (.e90 (l ++ m))
    | .e93 l, .e93 m => some (.e93 (l ++ m))
    | .e96 l, .e96 m => some (.e96 (l ++ m))
    | .e106 l, .e106 m => some (.e106 (l ++ m))
    | .e108 l, .e108 m => some (.e108 (l ++ m))
    | .e110 l, .e110 m => some (.e110 (l ++ m))
    | .e112 l, .e112 m => some (.e112 (l ++ m))
    | .eI l, .eI m => some (.eI (l ++ m))
    | _, _ => none
  set := fun
    | .e50 l, i, c => match m50 c with
      | some x => some (.e50 (l.set i x))
      | none => none
    | .e64 l, i, c => match m64 c with
      | some x => some (.e64 (l.set i x))
      | none => none
    | .e88 l, i, c => match m88 c with
      | some x => some (.e88 (l.set i x))
      | none => none
    | .e90 l, i, c => match m90 c with
      | some x => some (.e90 (l.set i x))
      | none => none
    | .e93 l, i, c => match m93 c with
      | some x => some (.e93 (l.set i x))
      | none => none
    | .e96 l, i, c => match m96 c with
      | some x => some (.e96 (l.set i x))
      | none => none
    | .e106 l, i, c => match m106 c with
      | some x => some (.e106 (l.set i x))
      | none => none
    | .e108 l, i, c => match m108 c with
      | some x => some (.e108 (l.set i x))
      | none => none
    | .e110 l, i, c => match m110 c with
      | some x => some (.e110 (l.set i x))
      | none => none
    | .e112 l, i, c => match m112 c with
      | some x => some (.e112 (l.set i x))
      | none => none
    | .eI l, i, c => match mI c with
      | some x => some (.eI (l.set i x))
      | none => none
  setK := fun r i c Z K => match r with
    | .e50 l => match m50 c with
      | some x => Option.bind (some (l.set i x)) fun y => K (.e50 y)
      | none => none
    | .e64 l => match m64 c with
      | some x => Option.bind (some (l.set i x)) fun y => K (.e64 y)
      | none => none
    | .e88 l => match m88 c with
      | some x => Option.bind (some (l.set i x)) fun y => K (.e88 y)
      | none => none
    | .e90 l => match m90 c with
      | some x => Option.bind (some (l.set i x)) fun y => K (.e90 y)
      | none => none
    | .e93 l => match m93 c with
      | some x => Option.bind (some (l.set i x)) fun y => K (.e93 y)
      | none => none
    | .e96 l => match m96 c with
      | some x => Option.bind (some (l.set i x)) fun y => K (.e96 y)
      | none => none
    | .e106 l => match m106 c with
      | some x => Option.bind (some (l.set i x)) fun y => K (.e106 y)
      | none => none
    | .e108 l => match m108 c with
      | some x => Option.bind (some (l.set i x)) fun y => K (.e108 y)
      | none => none
    | .e110 l => match m110 c with
      | some x => Option.bind (some (l.set i x)) fun y => K (.e110 y)
      | none => none
    | .e112 l => match m112 c with
      | some x => Option.bind (some (l.set i x)) fun y => K (.e112 y)
      | none => none
    | .eI l => match mI c with
      | some x => Option.bind (some (l.set i x)) fun y => K (.eI y)
      | none => none
theorem chain_nil {t u : Nat} {a r : Rw} {b : Option Rw} (h : cond (Nat.beq t u) (some a) b = some r) : (t = u ∧ a = r) ∨ b = some r := by
  cases hb : Nat.beq t u with
  | true => rw [hb] at h; simp only [cond_true, Option.some.injEq] at h; exact .inl ⟨Nat.eq_of_beq_eq_true hb, h⟩
  | false => rw [hb] at h; exact .inr h
instance : RowL Try.prog Rw where
  len_eq := fun r => by cases r <;> simp [RowT.len, RowT.cel]
  elt_eq := fun r i h => by cases r <;> simp only [RowT.len, RowT.cel, RowT.elt] at * <;> simp [List.getElem?_map, List.getElem?_eq_getElem h, List.getD_eq_getElem?_getD]
  nil_eq := fun t r h => by
    simp only [RowT.nil] at h
    rcases chain_nil h with ⟨rfl, rfl⟩ | h
    · exact ⟨rfl, rfl⟩
    rcases chain_nil h with ⟨rfl, rfl⟩ | h
    · exact ⟨rfl, rfl⟩
    rcases chain_nil h with ⟨rfl, rfl⟩ | h
    · exact ⟨rfl, rfl⟩
    rcases chain_nil h with ⟨rfl, rfl⟩ | h
    · exact ⟨rfl, rfl⟩
    rcases chain_nil h with ⟨rfl, rfl⟩ | h
    · exact ⟨rfl, rfl⟩
    rcases chain_nil h with ⟨rfl, rfl⟩ | h
    · exact ⟨rfl, rfl⟩
    rcases chain_nil h with ⟨rfl, rfl⟩ | h
    · exact ⟨rfl, rfl⟩
    rcases chain_nil h with ⟨rfl, rfl⟩ | h
    · exact ⟨rfl, rfl⟩
    rcases chain_nil h with ⟨rfl, rfl⟩ | h
    · exact ⟨rfl, rfl⟩
    rcases chain_nil h with ⟨rfl, rfl⟩ | h
    · exact ⟨rfl, rfl⟩
    rcases chain_nil h with ⟨rfl, rfl⟩ | h
    · exact ⟨rfl, rfl⟩
    simp at h
  zer_eq := fun t n r h => by
    simp only [RowT.zer] at h
    rcases chain_nil h with ⟨rfl, rfl⟩ | h
    · obtain ⟨i, z, h1, h2, h3, h4, _⟩ := i50_eq
      exact ⟨rfl, i, z, _, h1, h2, h4, by simp [RowT.cel]⟩
    rcases chain_nil h with ⟨rfl, rfl⟩ | h
    · obtain ⟨i, z, h1, h2, h3, h4, _⟩ := i64_eq
      exact ⟨rfl, i, z, _, h1, h2, h4, by simp [RowT.cel]⟩
    rcases chain_nil h with ⟨rfl, rfl⟩ | h
    · obtain ⟨i, z, h1, h2, h3, h4, _⟩ := i88_eq
      exact ⟨rfl, i, z, _, h1, h2, h4, by simp [RowT.cel]⟩
    rcases chain_nil h with ⟨rfl, rfl⟩ | h
    · obtain ⟨i, z, h1, h2, h3, h4, _⟩ := i90_eq
      exact ⟨rfl, i, z, _, h1, h2, h4, by simp [RowT.cel]⟩
    rcases chain_nil h with ⟨rfl, rfl⟩ | h
    · obtain ⟨i, z, h1, h2, h3, h4, _⟩ := i93_eq
      exact ⟨rfl, i, z, _, h1, h2, h4, by simp [RowT.cel]⟩
    rcases chain_nil h with ⟨rfl, rfl⟩ | h
    · obtain ⟨i, z, h1, h2, h3, h4, _⟩ := i96_eq
      exact ⟨rfl, i, z, _, h1, h2, h4, by simp [RowT.cel]⟩
    rcases chain_nil h with ⟨rfl, rfl⟩ | h
    · obtain ⟨i, z, h1, h2, h3, h4, _⟩ := i106_eq
      exact ⟨rfl, i, z, _, h1, h2, h4, by simp [RowT.cel]⟩
    rcases chain_nil h with ⟨rfl, rfl⟩ | h
    · obtain ⟨i, z, h1, h2, h3, h4, _⟩ := i108_eq
      exact ⟨rfl, i, z, _, h1, h2, h4, by simp [RowT.cel]⟩
    rcases chain_nil h with ⟨rfl, rfl⟩ | h
    · obtain ⟨i, z, h1, h2, h3, h4, _⟩ := i110_eq
      exact ⟨rfl, i, z, _, h1, h2, h4, by simp [RowT.cel]⟩
    rcases chain_nil h with ⟨rfl, rfl⟩ | h
    · obtain ⟨i, z, h1, h2, h3, h4, _⟩ := i112_eq
      exact ⟨rfl, i, z, _, h1, h2, h4, by simp [RowT.cel]⟩
    rcases chain_nil h with ⟨rfl, rfl⟩ | h
    · obtain ⟨i, z, h1, h2, h3, h4, _⟩ := iI_eq
      exact ⟨rfl, i, z, _, h1, h2, h4, by simp [RowT.cel]⟩
    simp at h
  snoc_eq := fun r r' c h => by
    cases r <;> simp only [RowT.snoc] at h <;> split at h <;> first | (simp at h; done) | (rename_i x hx; simp only [Option.some.injEq] at h; subst h; refine ⟨?_, rfl⟩; simp only [RowT.cel, List.map_append, List.map_cons, List.map_nil]; first | rw [m50_eq hx] | rw [m64_eq hx] | rw [m88_eq hx] | rw [m90_eq hx] | rw [m93_eq hx] | rw [m96_eq hx] | rw [m106_eq hx] | rw [m108_eq hx] | rw [m110_eq hx] | rw [m112_eq hx] | rw [mI_eq hx])
  app_eq := fun r s r' h => by
    cases r <;> cases s <;> simp only [RowT.app] at h <;> first | (simp at h; done) | (simp only [Option.some.injEq] at h; subst h; exact ⟨by simp [RowT.cel], rfl, rfl⟩)
  set_eq := fun r r' i c h => by
    cases r <;> simp only [RowT.set] at h <;> split at h <;> first | (simp at h; done) | (rename_i x hx; simp only [Option.some.injEq] at h; subst h; refine ⟨?_, rfl⟩; simp only [RowT.cel, List.map_set]; first | rw [m50_eq hx] | rw [m64_eq hx] | rw [m88_eq hx] | rw [m90_eq hx] | rw [m93_eq hx] | rw [m96_eq hx] | rw [m106_eq hx] | rw [m108_eq hx] | rw [m110_eq hx] | rw [m112_eq hx] | rw [mI_eq hx])
  setK_eq := fun r i c Z K z h => by
    cases r <;> simp only [RowT.setK] at h <;> split at h <;> first | (simp at h; done) | (rename_i x hx; exact ⟨_, by simp only [RowT.set, hx], h⟩)
  info := fun r => by
    cases r
    · obtain ⟨i, z, h1, h2, h3, _, h5, h6⟩ := i50_eq
      refine ⟨i, z, h1, h2, h3, by omega, h6, fun c hc => ?_⟩
      obtain ⟨x, _, rfl⟩ := List.mem_map.1 hc
      rw [h5]; rfl
    · obtain ⟨i, z, h1, h2, h3, _, h5, h6⟩ := i64_eq
      refine ⟨i, z, h1, h2, h3, by omega, h6, fun c hc => ?_⟩
      obtain ⟨x, _, rfl⟩ := List.mem_map.1 hc
      rw [h5]; rfl
    · obtain ⟨i, z, h1, h2, h3, _, h5, h6⟩ := i88_eq
      refine ⟨i, z, h1, h2, h3, by omega, h6, fun c hc => ?_⟩
      obtain ⟨x, _, rfl⟩ := List.mem_map.1 hc
      rw [h5]; rfl
    · obtain ⟨i, z, h1, h2, h3, _, h5, h6⟩ := i90_eq
      refine ⟨i, z, h1, h2, h3, by omega, h6, fun c hc => ?_⟩
      obtain ⟨x, _, rfl⟩ := List.mem_map.1 hc
      rw [h5]; rfl
    · obtain ⟨i, z, h1, h2, h3, _, h5, h6⟩ := i93_eq
      refine ⟨i, z, h1, h2, h3, by omega, h6, fun c hc => ?_⟩
      obtain ⟨x, _, rfl⟩ := List.mem_map.1 hc
      rw [h5]; rfl
    · obtain ⟨i, z, h1, h2, h3, _, h5, h6⟩ := i96_eq
      refine ⟨i, z, h1, h2, h3, by omega, h6, fun c hc => ?_⟩
      obtain ⟨x, _, rfl⟩ := List.mem_map.1 hc
      rw [h5]; rfl
    · obtain ⟨i, z, h1, h2, h3, _, h5, h6⟩ := i106_eq
      refine ⟨i, z, h1, h2, h3, by omega, h6, fun c hc => ?_⟩
      obtain ⟨x, _, rfl⟩ := List.mem_map.1 hc
      rw [h5]; rfl
    · obtain ⟨i, z, h1, h2, h3, _, h5, h6⟩ := i108_eq
      refine ⟨i, z, h1, h2, h3, by omega, h6, fun c hc => ?_⟩
      obtain ⟨x, _, rfl⟩ := List.mem_map.1 hc
      rw [h5]; rfl
    · obtain ⟨i, z, h1, h2, h3, _, h5, h6⟩ := i110_eq
      refine ⟨i, z, h1, h2, h3, by omega, h6, fun c hc => ?_⟩
      obtain ⟨x, _, rfl⟩ := List.mem_map.1 hc
      rw [h5]; rfl
    · obtain ⟨i, z, h1, h2, h3, _, h5, h6⟩ := i112_eq
      refine ⟨i, z, h1, h2, h3, by omega, h6, fun c hc => ?_⟩
      obtain ⟨x, _, rfl⟩ := List.mem_map.1 hc
      rw [h5]; rfl
    · obtain ⟨i, z, h1, h2, h3, _, h5, h6⟩ := iI_eq
      refine ⟨i, z, h1, h2, h3, by omega, h6, fun c hc => ?_⟩
      obtain ⟨x, _, rfl⟩ := List.mem_map.1 hc
      rw [h5]; rfl
theorem reps_flat {α : Type} {f : α → List Sc} {size : Nat} {Q : α → List Value → Prop} (hQ : ∀ x c, Q x c ↔ c = (f x).map Sc.v) (hs : ∀ x, (f x).length = size) : ∀ {ps : List α} {cs : List Value}, Reps Q size ps cs ↔ cs = (ps.map f).flatten.map Sc.v := by
  have mk : ∀ ps : List α, Reps Q size ps ((ps.map f).flatten.map Sc.v) := by
    intro ps
    induction ps with
    | nil => exact Reps.none _ _
    | cons p ps ih =>
      have : ((p :: ps).map f).flatten.map Sc.v = (f p).map Sc.v ++ (ps.map f).flatten.map Sc.v := by simp
      rw [this]
      exact Kd.reps_append (ps := [p]) (qs := ps) (by simpa using Reps.snoc (Reps.none Q size) ((hQ p _).2 rfl) (by simp [hs])) ih
  intro ps cs
  refine ⟨fun h => ?_, fun h => h ▸ mk ps⟩
  have h2 := mk ps
  have hl : cs.length = ((ps.map f).flatten.map Sc.v).length := h.1.trans h2.1.symm
  apply List.ext_getElem?
  intro j
  rcases Nat.eq_zero_or_pos size with h0 | h0
  · have e1 : cs.length = 0 := by rw [h.1, h0]; simp
    rw [List.getElem?_eq_none (by omega), List.getElem?_eq_none (by omega)]
  · have hj : j = (j / size) * size + j % size := by rw [Nat.mul_comm]; exact (Nat.div_add_mod j size).symm
    have hm := Nat.mod_lt j h0
    cases hp : ps[j / size]? with
    | none =>
      have : ps.length ≤ j / size := List.getElem?_eq_none_iff.1 hp
      have h3 : ps.length * size ≤ j := Nat.le_trans (Nat.mul_le_mul_right _ this) (Nat.div_mul_le_self j size)
      rw [List.getElem?_eq_none (by rw [h.1]; exact h3), List.getElem?_eq_none (by rw [h2.1]; exact h3)]
    | some p =>
      have a := (hQ p _).1 (h.2 _ p hp)
      have b := (hQ p _).1 (h2.2 _ p hp)
      have key : ∀ l : List Value, l[j]? = ((l.drop (j / size * size)).take size)[j % size]? := fun l => by
        rw [List.getElem?_take, if_pos hm, List.getElem?_drop, ← hj]
      rw [key cs, key, a, b]
theorem flat_len {α : Type} {f : α → List Sc} {size : Nat} (hs : ∀ x, (f x).length = size) (ps : List α) : ((ps.map f).flatten.map Sc.v).length = ps.length * size := ((reps_flat (Q := fun x c => c = (f x).map Sc.v) (fun _ _ => Iff.rfl) hs).2 rfl).1
theorem ro_cells {α : Type} {f : α → List Sc} {size : Nat} (q : 0 < size) {Q : α → List Value → Prop} (hQ : ∀ x c, Q x c ↔ c = (f x).map Sc.v) (hs : ∀ x, (f x).length = size) {w : World} {A : Option Addr} {ps : List α} :
    ReadsRow Q size w A ps.length ps ↔ ps.length ≤ maxLen ∧ ∀ j u, ((ps.map f).flatten.map Sc.v)[j]? = some u → ∃ ad, A = some ad ∧ w.cell? (ad.add j) = some u := by
  have hr := (reps_flat hQ hs (ps := ps)).2 rfl
  have hm : maxLen = 9223372036854775807 := rfl
  constructor
  · rintro ⟨_, h1, h2⟩
    refine ⟨by rw [hm]; exact h1, fun j u hj => ?_⟩
    have hlt : j < ps.length * size := by
      have := getElem?_lt hj
      rwa [flat_len hs] at this
    have h0 := q
    have hq : j / size < ps.length := (Nat.div_lt_iff_lt_mul h0).2 hlt
    obtain ⟨ad, hA, hc⟩ := h2 (Nat.lt_of_le_of_lt (Nat.zero_le _) hq)
    obtain ⟨c, c1, c2, c3⟩ := hc (j / size) _ (List.getElem?_eq_getElem hq)
    have b := (hQ _ _).1 (hr.2 _ _ (List.getElem?_eq_getElem hq))
    rw [(hQ _ _).1 c2, ← b] at c3
    refine ⟨ad, hA, ?_⟩
    have hj' : j / size * size + j % size = j := by rw [Nat.mul_comm]; exact Nat.div_add_mod j size
    have := c3 (j % size) u (by rw [List.getElem?_take, if_pos (Nat.mod_lt j h0), List.getElem?_drop, hj']; exact hj)
    rwa [hj'] at this
  · rintro ⟨h1, h2⟩
    refine ⟨rfl, by rw [← hm]; exact h1, fun hpos => ?_⟩
    obtain ⟨ad, hA, _⟩ := h2 0 _ (List.getElem?_eq_getElem (by rw [flat_len hs]; exact Nat.mul_pos hpos q))
    refine ⟨ad, hA, fun j p hp => ⟨(f p).map Sc.v, by simp [hs], (hQ p _).2 rfl, fun i u hi => ?_⟩⟩
    have b := (hQ _ _).1 (hr.2 _ _ hp)
    have hi2 : i < size := by have := getElem?_lt hi; simpa [hs] using this
    rw [← b, List.getElem?_take, if_pos hi2, List.getElem?_drop] at hi
    obtain ⟨ad', hA', h3⟩ := h2 _ u hi
    rw [hA] at hA'; injection hA' with hA'; subst hA'
    exact h3
theorem ro50 {g : Nat → Value} {w : World} {b i : Nat} {l : List S50} : BlkOK Try.prog g w b i (.rows 0 (Rw.e50 l)) ↔ ∃ A c, g i = .slice A l.length c ∧ l.length ≤ c ∧ Kd.C k50 w A l.length l := by
  have h := fun A => ro_cells (size := k50.sz) (by decide) (fun x c => n50_eq (w := w) (x := x) (cs := c)) (fun _ => rfl) (w := w) (A := A) (ps := l)
  constructor
  · rintro ⟨A, c, h1, h2, h3, h4⟩; exact ⟨A, c, h1, h2, (h A).2 ⟨h3, h4⟩⟩
  · rintro ⟨A, c, h1, h2, h3⟩; exact ⟨A, c, h1, h2, ((h A).1 h3).1, ((h A).1 h3).2⟩
theorem ro64 {g : Nat → Value} {w : World} {b i : Nat} {l : List S64} : BlkOK Try.prog g w b i (.rows 0 (Rw.e64 l)) ↔ ∃ A c, g i = .slice A l.length c ∧ l.length ≤ c ∧ Kd.C k64 w A l.length l := by
  have h := fun A => ro_cells (size := k64.sz) (by decide) (fun x c => n64_eq (w := w) (x := x) (cs := c)) (fun _ => rfl) (w := w) (A := A) (ps := l)
  constructor
  · rintro ⟨A, c, h1, h2, h3, h4⟩; exact ⟨A, c, h1, h2, (h A).2 ⟨h3, h4⟩⟩
  · rintro ⟨A, c, h1, h2, h3⟩; exact ⟨A, c, h1, h2, ((h A).1 h3).1, ((h A).1 h3).2⟩
theorem ro88 {g : Nat → Value} {w : World} {b i : Nat} {l : List S88} : BlkOK Try.prog g w b i (.rows 0 (Rw.e88 l)) ↔ ∃ A c, g i = .slice A l.length c ∧ l.length ≤ c ∧ Kd.C k88 w A l.length l := by
  have h := fun A => ro_cells (size := k88.sz) (by decide) (fun x c => n88_eq (w := w) (x := x) (cs := c)) (fun _ => rfl) (w := w) (A := A) (ps := l)
  constructor
  · rintro ⟨A, c, h1, h2, h3, h4⟩; exact ⟨A, c, h1, h2, (h A).2 ⟨h3, h4⟩⟩
  · rintro ⟨A, c, h1, h2, h3⟩; exact ⟨A, c, h1, h2, ((h A).1 h3).1, ((h A).1 h3).2⟩
theorem ro90 {g : Nat → Value} {w : World} {b i : Nat} {l : List S90} : BlkOK Try.prog g w b i (.rows 0 (Rw.e90 l)) ↔ ∃ A c, g i = .slice A l.length c ∧ l.length ≤ c ∧ Kd.C k90 w A l.length l := by
  have h := fun A => ro_cells (size := k90.sz) (by decide) (fun x c => n90_eq (w := w) (x := x) (cs := c)) (fun _ => rfl) (w := w) (A := A) (ps := l)
  constructor
  · rintro ⟨A, c, h1, h2, h3, h4⟩; exact ⟨A, c, h1, h2, (h A).2 ⟨h3, h4⟩⟩
  · rintro ⟨A, c, h1, h2, h3⟩; exact ⟨A, c, h1, h2, ((h A).1 h3).1, ((h A).1 h3).2⟩
theorem ro93 {g : Nat → Value} {w : World} {b i : Nat} {l : List S93} : BlkOK Try.prog g w b i (.rows 0 (Rw.e93 l)) ↔ ∃ A c, g i = .slice A l.length c ∧ l.length ≤ c ∧ Kd.C k93 w A l.length l := by
  have h := fun A => ro_cells (size := k93.sz) (by decide) (fun x c => n93_eq (w := w) (x := x) (cs := c)) (fun _ => rfl) (w := w) (A := A) (ps := l)
  constructor
  · rintro ⟨A, c, h1, h2, h3, h4⟩; exact ⟨A, c, h1, h2, (h A).2 ⟨h3, h4⟩⟩
  · rintro ⟨A, c, h1, h2, h3⟩; exact ⟨A, c, h1, h2, ((h A).1 h3).1, ((h A).1 h3).2⟩
theorem nw96 {w : World} {base : Nat} {ok : Nat → Prop} {v : Value} {l : List S96} (h : Kd.R k96 96 w base ok v l) : w.ownsRow base (RowT.ty (Rw.e96 l)) (Try.prog.cellsOf (RowT.ty (Rw.e96 l))) v (RowT.len (Rw.e96 l)) (flat (Rw.e96 l)) := by
  obtain ⟨inner, ho, hr⟩ := h.2
  obtain rfl := (reps_flat (f := n96) (size := k96.sz) (Q := k96.M w base _) (fun x c => n96_eqM) (fun _ => rfl)).1 hr
  rw [show Try.prog.cellsOf (RowT.ty (Rw.e96 l)) = k96.sz from (by kernel_rfl : Try.prog.cellsOf 96 = 5)]
  exact ho
theorem ro96 {g : Nat → Value} {w : World} {b i : Nat} {l : List S96} : BlkOK Try.prog g w b i (.rows 0 (Rw.e96 l)) ↔ ∃ A c, g i = .slice A l.length c ∧ l.length ≤ c ∧ Kd.C k96 w A l.length l := by
  have h := fun A => ro_cells (size := k96.sz) (by decide) (fun x c => n96_eq (w := w) (x := x) (cs := c)) (fun _ => rfl) (w := w) (A := A) (ps := l)
  constructor
  · rintro ⟨A, c, h1, h2, h3, h4⟩; exact ⟨A, c, h1, h2, (h A).2 ⟨h3, h4⟩⟩
  · rintro ⟨A, c, h1, h2, h3⟩; exact ⟨A, c, h1, h2, ((h A).1 h3).1, ((h A).1 h3).2⟩
theorem ro106 {g : Nat → Value} {w : World} {b i : Nat} {l : List S106} : BlkOK Try.prog g w b i (.rows 0 (Rw.e106 l)) ↔ ∃ A c, g i = .slice A l.length c ∧ l.length ≤ c ∧ Kd.C k106 w A l.length l := by
  have h := fun A => ro_cells (size := k106.sz) (by decide) (fun x c => n106_eq (w := w) (x := x) (cs := c)) (fun _ => rfl) (w := w) (A := A) (ps := l)
  constructor
  · rintro ⟨A, c, h1, h2, h3, h4⟩; exact ⟨A, c, h1, h2, (h A).2 ⟨h3, h4⟩⟩
  · rintro ⟨A, c, h1, h2, h3⟩; exact ⟨A, c, h1, h2, ((h A).1 h3).1, ((h A).1 h3).2⟩
theorem ro108 {g : Nat → Value} {w : World} {b i : Nat} {l : List S108} : BlkOK Try.prog g w b i (.rows 0 (Rw.e108 l)) ↔ ∃ A c, g i = .slice A l.length c ∧ l.length ≤ c ∧ Kd.C k108 w A l.length l := by
  have h := fun A => ro_cells (size := k108.sz) (by decide) (fun x c => n108_eq (w := w) (x := x) (cs := c)) (fun _ => rfl) (w := w) (A := A) (ps := l)
  constructor
  · rintro ⟨A, c, h1, h2, h3, h4⟩; exact ⟨A, c, h1, h2, (h A).2 ⟨h3, h4⟩⟩
  · rintro ⟨A, c, h1, h2, h3⟩; exact ⟨A, c, h1, h2, ((h A).1 h3).1, ((h A).1 h3).2⟩
theorem ro110 {g : Nat → Value} {w : World} {b i : Nat} {l : List S110} : BlkOK Try.prog g w b i (.rows 0 (Rw.e110 l)) ↔ ∃ A c, g i = .slice A l.length c ∧ l.length ≤ c ∧ Kd.C k110 w A l.length l := by
  have h := fun A => ro_cells (size := k110.sz) (by decide) (fun x c => n110_eq (w := w) (x := x) (cs := c)) (fun _ => rfl) (w := w) (A := A) (ps := l)
  constructor
  · rintro ⟨A, c, h1, h2, h3, h4⟩; exact ⟨A, c, h1, h2, (h A).2 ⟨h3, h4⟩⟩
  · rintro ⟨A, c, h1, h2, h3⟩; exact ⟨A, c, h1, h2, ((h A).1 h3).1, ((h A).1 h3).2⟩
theorem ro112 {g : Nat → Value} {w : World} {b i : Nat} {l : List S112} : BlkOK Try.prog g w b i (.rows 0 (Rw.e112 l)) ↔ ∃ A c, g i = .slice A l.length c ∧ l.length ≤ c ∧ Kd.C k112 w A l.length l := by
  have h := fun A => ro_cells (size := k112.sz) (by decide) (fun x c => n112_eq (w := w) (x := x) (cs := c)) (fun _ => rfl) (w := w) (A := A) (ps := l)
  constructor
  · rintro ⟨A, c, h1, h2, h3, h4⟩; exact ⟨A, c, h1, h2, (h A).2 ⟨h3, h4⟩⟩
  · rintro ⟨A, c, h1, h2, h3⟩; exact ⟨A, c, h1, h2, ((h A).1 h3).1, ((h A).1 h3).2⟩
theorem mixed : Try.prog.follows .mixedOrders = true := by kernel_rfl
end Go.Proofs.Ytmfgajbkcnlkcaa.AI
namespace Go.Proofs.Ytmfgajbkcnlkcaa.AI
open Go Go.RowKit Go.Proofs.YtmfgajbkcnlkcaaW.PrintWords Go.Proofs.Ytmfgajbkcnlkcaa.P
set_option linter.unusedVariables false
set_option linter.all false
set_option maxRecDepth 100000
def o50 (l0 : List S106) (r : Int) : Out Rw := ⟨[.c (.sc (.i .i64 r))], [.rows 0 (.e106 l0)]⟩
def Q50 : Mean Rw := fun k a h Z K => match a, h with
  | [.w (.c (.rw 0)), .w (.c (.sc (.i .i64 a1)))], [.rows 0 (.e106 l0)] => (laws_szAccountS.f l0 a1).bind fun r => K (o50 l0 r)
  | _, _ => none
def O50 : List (Cal Rw) := []
theorem O50_ok : ∀ c ∈ O50, Sound Try.prog c := by
  intro c hc
  simp only [O50, List.mem_cons, List.not_mem_nil, or_false] at hc
def K50 : List (Cut Rw) := []
theorem z50_ok : ∀ c ∈ K50, ∀ st, c.f 0 st = none := by
  intro c hc st
  simp only [K50, List.mem_cons, List.not_mem_nil, or_false] at hc
theorem h50_ok : ∀ c ∈ K50, ∀ k st out, c.f (k + 1) st = some out → seg Try.prog O50 K50 k (body Try.f50) (kEnd Try.prog Try.f50.results.toList) c.p st = some out := by
  intro c hc k st out h
  simp only [K50, List.mem_cons, List.not_mem_nil, or_false] at hc
theorem g50 (k : Nat) (l0 : List (S106)) (a1 : Int) (r : Int) (h : laws_szAccountS.f l0 a1 = some r) : Good Try.prog 50 [.w (.c (.rw 0)), .w (.c (.sc (.i .i64 a1)))] [.rows 0 (.e106 l0)] (o50 l0 r) := by
  refine fn_ok (k := k) O50_ok mixed Try.func50 (root := body Try.f50) (by kernel_rfl) z50_ok h50_ok ?_
  refine Lo.of (b := (if RowKit.wrap64 (a1 - (l0.length : Int)) < 0 then (some (o50 l0 (-1))) else (some (o50 l0 (RowKit.wrap64 (a1 - (l0.length : Int))))))) (c := (laws_szAccountS.f l0 a1).bind fun r => some (o50 l0 r)) (by kernel_rfl) ?_ _ (by rw [h]; rfl)
  · unfold laws_szAccountS.f
    repeat' first
    | with_reducible exact none_L
    | with_reducible refine letB_L (fun _ _ => ?_)
    | with_reducible refine bind_L (fun _ => ?_)
    | with_reducible refine ite_L (fun _ => ?_) (fun _ => ?_)
    | with_reducible refine drop_L (by first | assumption | omega | (simp only [*, List.length_set]; done)) ?_
    | with_reducible refine let_L ?_
    | with_reducible refine some_L ?_
    | with_reducible refine letT_L ?_
    | with_reducible refine ite_I (by omega) (fun _ => ?_) (fun _ => ?_)
    | rfl
    | simp only [Bool.decide_eq_true]
    | exact Lo.refl _
    | (refine Lo.eq ?_; simp only [Bool.decide_eq_true]; done)
    | refine ite_L (fun _ => ?_) (fun _ => ?_)
theorem d50 : Sound Try.prog ⟨50, false, Q50⟩ := sound_of ⟨_, Try.func50, by kernel_rfl, by kernel_rfl⟩ fun k args hp Z K z h => by
  unfold Q50 at h
  split at h
  · obtain ⟨r, hr, hK⟩ := Option.bind_eq_some_iff.1 h
    exact ⟨_, hK, g50 k _ _ r hr⟩
  · cases h
def o51 (l0 : List S108) (r : Int) : Out Rw := ⟨[.c (.sc (.i .i64 r))], [.rows 0 (.e108 l0)]⟩
def Q51 : Mean Rw := fun k a h Z K => match a, h with
  | [.w (.c (.rw 0)), .w (.c (.sc (.i .i64 a1)))], [.rows 0 (.e108 l0)] => (laws_szInstrS.f l0 a1).bind fun r => K (o51 l0 r)
  | _, _ => none
def O51 : List (Cal Rw) := []
theorem O51_ok : ∀ c ∈ O51, Sound Try.prog c := by
  intro c hc
  simp only [O51, List.mem_cons, List.not_mem_nil, or_false] at hc
def K51 : List (Cut Rw) := []
theorem z51_ok : ∀ c ∈ K51, ∀ st, c.f 0 st = none := by
  intro c hc st
  simp only [K51, List.mem_cons, List.not_mem_nil, or_false] at hc
theorem h51_ok : ∀ c ∈ K51, ∀ k st out, c.f (k + 1) st = some out → seg Try.prog O51 K51 k (body Try.f51) (kEnd Try.prog Try.f51.results.toList) c.p st = some out := by
  intro c hc k st out h
  simp only [K51, List.mem_cons, List.not_mem_nil, or_false] at hc
theorem g51 (k : Nat) (l0 : List (S108)) (a1 : Int) (r : Int) (h : laws_szInstrS.f l0 a1 = some r) : Good Try.prog 51 [.w (.c (.rw 0)), .w (.c (.sc (.i .i64 a1)))] [.rows 0 (.e108 l0)] (o51 l0 r) := by
  refine fn_ok (k := k) O51_ok mixed Try.func51 (root := body Try.f51) (by kernel_rfl) z51_ok h51_ok ?_
  refine Lo.of (b := (if RowKit.wrap64 (a1 - (l0.length : Int)) < 0 then (some (o51 l0 (-1))) else (some (o51 l0 (RowKit.wrap64 (a1 - (l0.length : Int))))))) (c := (laws_szInstrS.f l0 a1).bind fun r => some (o51 l0 r)) (by kernel_rfl) ?_ _ (by rw [h]; rfl)
  · unfold laws_szInstrS.f
    repeat' first
    | with_reducible exact none_L
    | with_reducible refine letB_L (fun _ _ => ?_)
    | with_reducible refine bind_L (fun _ => ?_)
    | with_reducible refine ite_L (fun _ => ?_) (fun _ => ?_)
    | with_reducible refine drop_L (by first | assumption | omega | (simp only [*, List.length_set]; done)) ?_
    | with_reducible refine let_L ?_
    | with_reducible refine some_L ?_
    | with_reducible refine letT_L ?_
    | with_reducible refine ite_I (by omega) (fun _ => ?_) (fun _ => ?_)
    | rfl
    | simp only [Bool.decide_eq_true]
    | exact Lo.refl _
    | (refine Lo.eq ?_; simp only [Bool.decide_eq_true]; done)
    | refine ite_L (fun _ => ?_) (fun _ => ?_)
theorem d51 : Sound Try.prog ⟨51, false, Q51⟩ := sound_of ⟨_, Try.func51, by kernel_rfl, by kernel_rfl⟩ fun k args hp Z K z h => by
  unfold Q51 at h
  split at h
  · obtain ⟨r, hr, hK⟩ := Option.bind_eq_some_iff.1 h
    exact ⟨_, hK, g51 k _ _ r hr⟩
  · cases h
def o52 (l0 : List S110) (r : Int) : Out Rw := ⟨[.c (.sc (.i .i64 r))], [.rows 0 (.e110 l0)]⟩
def Q52 : Mean Rw := fun k a h Z K => match a, h with
  | [.w (.c (.rw 0)), .w (.c (.sc (.i .i64 a1)))], [.rows 0 (.e110 l0)] => (laws_szBalS.f l0 a1).bind fun r => K (o52 l0 r)
  | _, _ => none
def O52 : List (Cal Rw) := []
theorem O52_ok : ∀ c ∈ O52, Sound Try.prog c := by
  intro c hc
  simp only [O52, List.mem_cons, List.not_mem_nil, or_false] at hc
def K52 : List (Cut Rw) := []
theorem z52_ok : ∀ c ∈ K52, ∀ st, c.f 0 st = none := by
  intro c hc st
  simp only [K52, List.mem_cons, List.not_mem_nil, or_false] at hc
theorem h52_ok : ∀ c ∈ K52, ∀ k st out, c.f (k + 1) st = some out → seg Try.prog O52 K52 k (body Try.f52) (kEnd Try.prog Try.f52.results.toList) c.p st = some out := by
  intro c hc k st out h
  simp only [K52, List.mem_cons, List.not_mem_nil, or_false] at hc
theorem g52 (k : Nat) (l0 : List (S110)) (a1 : Int) (r : Int) (h : laws_szBalS.f l0 a1 = some r) : Good Try.prog 52 [.w (.c (.rw 0)), .w (.c (.sc (.i .i64 a1)))] [.rows 0 (.e110 l0)] (o52 l0 r) := by
  refine fn_ok (k := k) O52_ok mixed Try.func52 (root := body Try.f52) (by kernel_rfl) z52_ok h52_ok ?_
  refine Lo.of (b := (if RowKit.wrap64 (a1 - (l0.length : Int)) < 0 then (some (o52 l0 (-1))) else (some (o52 l0 (RowKit.wrap64 (a1 - (l0.length : Int))))))) (c := (laws_szBalS.f l0 a1).bind fun r => some (o52 l0 r)) (by kernel_rfl) ?_ _ (by rw [h]; rfl)
  · unfold laws_szBalS.f
    repeat' first
    | with_reducible exact none_L
    | with_reducible refine letB_L (fun _ _ => ?_)
    | with_reducible refine bind_L (fun _ => ?_)
    | with_reducible refine ite_L (fun _ => ?_) (fun _ => ?_)
    | with_reducible refine drop_L (by first | assumption | omega | (simp only [*, List.length_set]; done)) ?_
    | with_reducible refine let_L ?_
    | with_reducible refine some_L ?_
    | with_reducible refine letT_L ?_
    | with_reducible refine ite_I (by omega) (fun _ => ?_) (fun _ => ?_)
    | rfl
    | simp only [Bool.decide_eq_true]
    | exact Lo.refl _
    | (refine Lo.eq ?_; simp only [Bool.decide_eq_true]; done)
    | refine ite_L (fun _ => ?_) (fun _ => ?_)
theorem d52 : Sound Try.prog ⟨52, false, Q52⟩ := sound_of ⟨_, Try.func52, by kernel_rfl, by kernel_rfl⟩ fun k args hp Z K z h => by
  unfold Q52 at h
  split at h
  · obtain ⟨r, hr, hK⟩ := Option.bind_eq_some_iff.1 h
    exact ⟨_, hK, g52 k _ _ r hr⟩
  · cases h
def o53 (l0 : List S112) (r : Int) : Out Rw := ⟨[.c (.sc (.i .i64 r))], [.rows 0 (.e112 l0)]⟩
def Q53 : Mean Rw := fun k a h Z K => match a, h with
  | [.w (.c (.rw 0)), .w (.c (.sc (.i .i64 a1)))], [.rows 0 (.e112 l0)] => (laws_szLotS.f l0 a1).bind fun r => K (o53 l0 r)
  | _, _ => none
def O53 : List (Cal Rw) := []
theorem O53_ok : ∀ c ∈ O53, Sound Try.prog c := by
  intro c hc
  simp only [O53, List.mem_cons, List.not_mem_nil, or_false] at hc
def K53 : List (Cut Rw) := []
theorem z53_ok : ∀ c ∈ K53, ∀ st, c.f 0 st = none := by
  intro c hc st
  simp only [K53, List.mem_cons, List.not_mem_nil, or_false] at hc
theorem h53_ok : ∀ c ∈ K53, ∀ k st out, c.f (k + 1) st = some out → seg Try.prog O53 K53 k (body Try.f53) (kEnd Try.prog Try.f53.results.toList) c.p st = some out := by
  intro c hc k st out h
  simp only [K53, List.mem_cons, List.not_mem_nil, or_false] at hc
theorem g53 (k : Nat) (l0 : List (S112)) (a1 : Int) (r : Int) (h : laws_szLotS.f l0 a1 = some r) : Good Try.prog 53 [.w (.c (.rw 0)), .w (.c (.sc (.i .i64 a1)))] [.rows 0 (.e112 l0)] (o53 l0 r) := by
  refine fn_ok (k := k) O53_ok mixed Try.func53 (root := body Try.f53) (by kernel_rfl) z53_ok h53_ok ?_
  refine Lo.of (b := (if RowKit.wrap64 (a1 - (l0.length : Int)) < 0 then (some (o53 l0 (-1))) else (some (o53 l0 (RowKit.wrap64 (a1 - (l0.length : Int))))))) (c := (laws_szLotS.f l0 a1).bind fun r => some (o53 l0 r)) (by kernel_rfl) ?_ _ (by rw [h]; rfl)
  · unfold laws_szLotS.f
    repeat' first
    | with_reducible exact none_L
    | with_reducible refine letB_L (fun _ _ => ?_)
    | with_reducible refine bind_L (fun _ => ?_)
    | with_reducible refine ite_L (fun _ => ?_) (fun _ => ?_)
    | with_reducible refine drop_L (by first | assumption | omega | (simp only [*, List.length_set]; done)) ?_
    | with_reducible refine let_L ?_
    | with_reducible refine some_L ?_
    | with_reducible refine letT_L ?_
    | with_reducible refine ite_I (by omega) (fun _ => ?_) (fun _ => ?_)
    | rfl
    | simp only [Bool.decide_eq_true]
    | exact Lo.refl _
    | (refine Lo.eq ?_; simp only [Bool.decide_eq_true]; done)
    | refine ite_L (fun _ => ?_) (fun _ => ?_)
theorem d53 : Sound Try.prog ⟨53, false, Q53⟩ := sound_of ⟨_, Try.func53, by kernel_rfl, by kernel_rfl⟩ fun k args hp Z K z h => by
  unfold Q53 at h
  split at h
  · obtain ⟨r, hr, hK⟩ := Option.bind_eq_some_iff.1 h
    exact ⟨_, hK, g53 k _ _ r hr⟩
  · cases h
def o8 (l0 : List S64) (r : Int) : Out Rw := ⟨[.c (.sc (.i .i64 r))], [.rows 0 (.e64 l0)]⟩
def Q8 : Mean Rw := fun k a h Z K => match a, h with
  | [.w (.c (.rw 0)), .w (.c (.sc (.i .i64 a1)))], [.rows 0 (.e64 l0)] => (laws_szTradeS.f l0 a1).bind fun r => K (o8 l0 r)
  | _, _ => none
def O8 : List (Cal Rw) := []
theorem O8_ok : ∀ c ∈ O8, Sound Try.prog c := by
  intro c hc
  simp only [O8, List.mem_cons, List.not_mem_nil, or_false] at hc
def K8 : List (Cut Rw) := []
theorem z8_ok : ∀ c ∈ K8, ∀ st, c.f 0 st = none := by
  intro c hc st
  simp only [K8, List.mem_cons, List.not_mem_nil, or_false] at hc
theorem h8_ok : ∀ c ∈ K8, ∀ k st out, c.f (k + 1) st = some out → seg Try.prog O8 K8 k (body Try.f8) (kEnd Try.prog Try.f8.results.toList) c.p st = some out := by
  intro c hc k st out h
  simp only [K8, List.mem_cons, List.not_mem_nil, or_false] at hc
theorem g8 (k : Nat) (l0 : List (S64)) (a1 : Int) (r : Int) (h : laws_szTradeS.f l0 a1 = some r) : Good Try.prog 8 [.w (.c (.rw 0)), .w (.c (.sc (.i .i64 a1)))] [.rows 0 (.e64 l0)] (o8 l0 r) := by
  refine fn_ok (k := k) O8_ok mixed Try.func8 (root := body Try.f8) (by kernel_rfl) z8_ok h8_ok ?_
  refine Lo.of (b := (if RowKit.wrap64 (a1 - (l0.length : Int)) < 0 then (some (o8 l0 (-1))) else (some (o8 l0 (RowKit.wrap64 (a1 - (l0.length : Int))))))) (c := (laws_szTradeS.f l0 a1).bind fun r => some (o8 l0 r)) (by kernel_rfl) ?_ _ (by rw [h]; rfl)
  · unfold laws_szTradeS.f
    repeat' first
    | with_reducible exact none_L
    | with_reducible refine letB_L (fun _ _ => ?_)
    | with_reducible refine bind_L (fun _ => ?_)
    | with_reducible refine ite_L (fun _ => ?_) (fun _ => ?_)
    | with_reducible refine drop_L (by first | assumption | omega | (simp only [*, List.length_set]; done)) ?_
    | with_reducible refine let_L ?_
    | with_reducible refine some_L ?_
    | with_reducible refine letT_L ?_
    | with_reducible refine ite_I (by omega) (fun _ => ?_) (fun _ => ?_)
    | rfl
    | simp only [Bool.decide_eq_true]
    | exact Lo.refl _
    | (refine Lo.eq ?_; simp only [Bool.decide_eq_true]; done)
    | refine ite_L (fun _ => ?_) (fun _ => ?_)
theorem d8 : Sound Try.prog ⟨8, false, Q8⟩ := sound_of ⟨_, Try.func8, by kernel_rfl, by kernel_rfl⟩ fun k args hp Z K z h => by
  unfold Q8 at h
  split at h
  · obtain ⟨r, hr, hK⟩ := Option.bind_eq_some_iff.1 h
    exact ⟨_, hK, g8 k _ _ r hr⟩
  · cases h
def o18 (l0_0 : List S106) (l0_1 : List S108) (l0_2 : List S110) (l0_3 : List S112) (l0_4 : List S64) (r : Int) : Out Rw := ⟨[.c (.sc (.i .i64 r))], [.rows 0 (.e106 l0_0), .rows 0 (.e108 l0_1), .rows 0 (.e110 l0_2), .rows 0 (.e112 l0_3), .rows 0 (.e64 l0_4)]⟩
def Q18 : Mean Rw := fun k a h Z K => match a, h with
  | [.w (.ag [.rw 0, .rw 1, .rw 2, .rw 3, .rw 4, .sc (.i .i64 a0_5)]), .w (.c (.sc (.i .i64 a1)))], [.rows 0 (.e106 l0_0), .rows 0 (.e108 l0_1), .rows 0 (.e110 l0_2), .rows 0 (.e112 l0_3), .rows 0 (.e64 l0_4)] => (laws_szBooks.f l0_0 l0_1 l0_2 l0_3 l0_4 a0_5 a1).bind fun r => K (o18 l0_0 l0_1 l0_2 l0_3 l0_4 r)
  | _, _ => none
def O18 : List (Cal Rw) := [⟨50, false, Q50⟩, ⟨51, false, Q51⟩, ⟨52, false, Q52⟩, ⟨53, false, Q53⟩, ⟨8, false, Q8⟩]
theorem O18_ok : ∀ c ∈ O18, Sound Try.prog c := by
  intro c hc
  simp only [O18, List.mem_cons, List.not_mem_nil, or_false] at hc
  rcases hc with rfl | rfl | rfl | rfl | rfl
  · exact d50
  · exact d51
  · exact d52
  · exact d53
  · exact d8
def K18 : List (Cut Rw) := []
theorem z18_ok : ∀ c ∈ K18, ∀ st, c.f 0 st = none := by
  intro c hc st
  simp only [K18, List.mem_cons, List.not_mem_nil, or_false] at hc
theorem h18_ok : ∀ c ∈ K18, ∀ k st out, c.f (k + 1) st = some out → seg Try.prog O18 K18 k (body Try.f18) (kEnd Try.prog Try.f18.results.toList) c.p st = some out := by
  intro c hc k st out h
  simp only [K18, List.mem_cons, List.not_mem_nil, or_false] at hc
theorem g18 (k : Nat) (l0_0 : List (S106)) (l0_1 : List (S108)) (l0_2 : List (S110)) (l0_3 : List (S112)) (l0_4 : List (S64)) (a0_5 : Int) (a1 : Int) (r : Int) (h : laws_szBooks.f l0_0 l0_1 l0_2 l0_3 l0_4 a0_5 a1 = some r) : Good Try.prog 18 [.w (.ag [.rw 0, .rw 1, .rw 2, .rw 3, .rw 4, .sc (.i .i64 a0_5)]), .w (.c (.sc (.i .i64 a1)))] [.rows 0 (.e106 l0_0), .rows 0 (.e108 l0_1), .rows 0 (.e110 l0_2), .rows 0 (.e112 l0_3), .rows 0 (.e64 l0_4)] (o18 l0_0 l0_1 l0_2 l0_3 l0_4 r) := by
  refine fn_ok (k := k) O18_ok mixed Try.func18 (root := body Try.f18) (by kernel_rfl) z18_ok h18_ok ?_
  refine Lo.of (b := ((laws_szAccountS.f l0_0 a1).bind fun r8 => (if r8 < 0 then (some (o18 l0_0 l0_1 l0_2 l0_3 l0_4 (-1))) else ((laws_szInstrS.f l0_1 r8).bind fun r9 => (if r9 < 0 then (some (o18 l0_0 l0_1 l0_2 l0_3 l0_4 (-1))) else ((laws_szBalS.f l0_2 r9).bind fun r10 => (if r10 < 0 then (some (o18 l0_0 l0_1 l0_2 l0_3 l0_4 (-1))) else ((laws_szLotS.f l0_3 r10).bind fun r11 => (if r11 < 0 then (some (o18 l0_0 l0_1 l0_2 l0_3 l0_4 (-1))) else ((laws_szTradeS.f l0_4 r11).bind fun r12 => (if r12 < 0 then (some (o18 l0_0 l0_1 l0_2 l0_3 l0_4 (-1))) else (some (o18 l0_0 l0_1 l0_2 l0_3 l0_4 r12))))))))))))) (c := (laws_szBooks.f l0_0 l0_1 l0_2 l0_3 l0_4 a0_5 a1).bind fun r => some (o18 l0_0 l0_1 l0_2 l0_3 l0_4 r)) (by kernel_rfl) ?_ _ (by rw [h]; rfl)
  · unfold laws_szBooks.f
    repeat' first
    | with_reducible exact none_L
    | with_reducible refine letB_L (fun _ _ => ?_)
    | with_reducible refine bind_L (fun _ => ?_)
    | with_reducible refine ite_L (fun _ => ?_) (fun _ => ?_)
    | with_reducible refine drop_L (by first | assumption | omega | (simp only [*, List.length_set]; done)) ?_
    | with_reducible refine let_L ?_
    | with_reducible refine some_L ?_
    | with_reducible refine letT_L ?_
    | with_reducible refine ite_I (by omega) (fun _ => ?_) (fun _ => ?_)
    | rfl
    | simp only [Bool.decide_eq_true]
    | exact Lo.refl _
    | (refine Lo.eq ?_; simp only [Bool.decide_eq_true]; done)
    | refine ite_L (fun _ => ?_) (fun _ => ?_)
theorem d18 : Sound Try.prog ⟨18, false, Q18⟩ := sound_of ⟨_, Try.func18, by kernel_rfl, by kernel_rfl⟩ fun k args hp Z K z h => by
  unfold Q18 at h
  split at h
  · obtain ⟨r, hr, hK⟩ := Option.bind_eq_some_iff.1 h
    exact ⟨_, hK, g18 k _ _ _ _ _ _ _ r hr⟩
  · cases h
def o87 (r : Int × Int) : Out Rw := ⟨[.ag [.sc (.i .i64 r.1), .sc (.i .i64 r.2)]], []⟩
def Q87 : Mean Rw := fun k a h Z K => match a, h with
  | [.w (.ag [.sc (.i .i64 a0_0), .sc (.i .i64 a0_1)])], [] => (laws_toAccount.f a0_0 a0_1).bind fun r => K (o87 r)
  | _, _ => none
def O87 : List (Cal Rw) := []
theorem O87_ok : ∀ c ∈ O87, Sound Try.prog c := by
  intro c hc
  simp only [O87, List.mem_cons, List.not_mem_nil, or_false] at hc
def K87 : List (Cut Rw) := []
theorem z87_ok : ∀ c ∈ K87, ∀ st, c.f 0 st = none := by
  intro c hc st
  simp only [K87, List.mem_cons, List.not_mem_nil, or_false] at hc
theorem h87_ok : ∀ c ∈ K87, ∀ k st out, c.f (k + 1) st = some out → seg Try.prog O87 K87 k (body Try.f87) (kEnd Try.prog Try.f87.results.toList) c.p st = some out := by
  intro c hc k st out h
  simp only [K87, List.mem_cons, List.not_mem_nil, or_false] at hc
theorem g87 (k : Nat) (a0_0 : Int) (a0_1 : Int) (r : Int × Int) (h : laws_toAccount.f a0_0 a0_1 = some r) : Good Try.prog 87 [.w (.ag [.sc (.i .i64 a0_0), .sc (.i .i64 a0_1)])] [] (o87 r) := by
  refine fn_ok (k := k) O87_ok mixed Try.func87 (root := body Try.f87) (by kernel_rfl) z87_ok h87_ok ?_
  refine Lo.of (b := (some (o87 (a0_0, a0_1)))) (c := (laws_toAccount.f a0_0 a0_1).bind fun r => some (o87 r)) (by kernel_rfl) ?_ _ (by rw [h]; rfl)
  · unfold laws_toAccount.f
    repeat' first
    | with_reducible exact none_L
    | with_reducible refine letB_L (fun _ _ => ?_)
    | with_reducible refine bind_L (fun _ => ?_)
    | with_reducible refine ite_L (fun _ => ?_) (fun _ => ?_)
    | with_reducible refine drop_L (by first | assumption | omega | (simp only [*, List.length_set]; done)) ?_
    | with_reducible refine let_L ?_
    | with_reducible refine some_L ?_
    | with_reducible refine letT_L ?_
    | with_reducible refine ite_I (by omega) (fun _ => ?_) (fun _ => ?_)
    | rfl
    | simp only [Bool.decide_eq_true]
    | exact Lo.refl _
    | (refine Lo.eq ?_; simp only [Bool.decide_eq_true]; done)
    | refine ite_L (fun _ => ?_) (fun _ => ?_)
theorem d87 : Sound Try.prog ⟨87, false, Q87⟩ := sound_of ⟨_, Try.func87, by kernel_rfl, by kernel_rfl⟩ fun k args hp Z K z h => by
  unfold Q87 at h
  split at h
  · obtain ⟨r, hr, hK⟩ := Option.bind_eq_some_iff.1 h
    exact ⟨_, hK, g87 k _ _ r hr⟩
  · cases h
def o62 (l0 : List S106) (r : (List (S88))) : Out Rw := ⟨[.c (.rw 1)], [.rows 0 (.e106 l0), .rows 2 (.e88 r)]⟩
def Q62 : Mean Rw := fun k a h Z K => match a, h with
  | [.w (.c (.rw 0))], [.rows 0 (.e106 l0)] => (laws_toAccountS.f k l0).bind fun r => K (o62 l0 r)
  | _, _ => none
def O62 : List (Cal Rw) := [⟨87, false, Q87⟩]
theorem O62_ok : ∀ c ∈ O62, Sound Try.prog c := by
  intro c hc
  simp only [O62, List.mem_cons, List.not_mem_nil, or_false] at hc
  rcases hc with rfl
  · exact d87
def C62_0 : Nat → St Rw → Option (Out Rw) := fun k st => match st with
  | ⟨23, 1, 2, [(0, .w (.c (.rw 0))), (3, .w (.c (.rw 1))), (4, .w (.c (.sc (.i .i64 x4))))], [(0, .rows 0 (.e106 l0)), (1, .rows 2 (.e88 y1))]⟩ => (laws_toAccountS.l0 k l0 y1 x4).bind fun r => some (o62 l0 r)
  | _ => none
def K62 : List (Cut Rw) := [⟨[false, true, false, true, true], [0, 3, 4], C62_0⟩]
theorem e62_0 (k : Nat) (x4 : Int) (l0 : List S106) (y1 : List S88) : Lo (seg Try.prog O62 K62 k (body Try.f62) (kEnd Try.prog Try.f62.results.toList) [false, true, false, true, true] ⟨23, 1, 2, [(0, .w (.c (.rw 0))), (3, .w (.c (.rw 1))), (4, .w (.c (.sc (.i .i64 x4))))], [(0, .rows 0 (.e106 l0)), (1, .rows 2 (.e88 y1))]⟩) ((laws_toAccountS.l0 (k + 1) l0 y1 x4).bind fun r => some (o62 l0 r)) :=
  Lo.of (b := (if x4 < (l0.length : Int) then (if 0 ≤ x4 then (if x4 < (l0.length : Int) then ((laws_toAccount.f (rd_T106 l0 x4).f0 (rd_T106 l0 x4).f1).bind fun r4 => (if 0 ≤ x4 then (if x4 < (y1.length : Int) then ((some (y1.set x4.toNat (⟨r4.1, r4.2⟩ : S88))).bind fun y5 => ((laws_toAccountS.l0 k l0 y5 (RowKit.wrap64 (x4 + 1))).bind fun r => some (o62 l0 r))) else none) else none)) else none) else none) else (some (o62 l0 y1)))) (by kernel_rfl) (by
    rw [laws_toAccountS.l0]
    repeat' first
    | with_reducible exact none_L
    | with_reducible refine letB_L (fun _ _ => ?_)
    | with_reducible refine bind_L (fun _ => ?_)
    | with_reducible refine ite_L (fun _ => ?_) (fun _ => ?_)
    | with_reducible refine drop_L (by first | assumption | omega | (simp only [*, List.length_set]; done)) ?_
    | with_reducible refine let_L ?_
    | with_reducible refine some_L ?_
    | with_reducible refine letT_L ?_
    | with_reducible refine ite_I (by omega) (fun _ => ?_) (fun _ => ?_)
    | rfl
    | simp only [Bool.decide_eq_true]
    | exact Lo.refl _
    | (refine Lo.eq ?_; simp only [Bool.decide_eq_true]; done)
    | refine ite_L (fun _ => ?_) (fun _ => ?_))
theorem h62_0 (k : Nat) (st : St Rw) (out : Out Rw) (h : C62_0 (k + 1) st = some out) : seg Try.prog O62 K62 k (body Try.f62) (kEnd Try.prog Try.f62.results.toList) [false, true, false, true, true] st = some out := by
  unfold C62_0 at h
  split at h
  · exact e62_0 _ _ _ _ out h
  · cases h
theorem z62_ok : ∀ c ∈ K62, ∀ st, c.f 0 st = none := by
  intro c hc st
  simp only [K62, List.mem_cons, List.not_mem_nil, or_false] at hc
  rcases hc with rfl
  · show C62_0 0 st = none; unfold C62_0; split <;> rfl
theorem h62_ok : ∀ c ∈ K62, ∀ k st out, c.f (k + 1) st = some out → seg Try.prog O62 K62 k (body Try.f62) (kEnd Try.prog Try.f62.results.toList) c.p st = some out := by
  intro c hc k st out h
  simp only [K62, List.mem_cons, List.not_mem_nil, or_false] at hc
  rcases hc with rfl
  · exact h62_0 k st out h
theorem g62 (k : Nat) (l0 : List (S106)) (r : (List (S88))) (h : laws_toAccountS.f k l0 = some r) : Good Try.prog 62 [.w (.c (.rw 0))] [.rows 0 (.e106 l0)] (o62 l0 r) := by
  refine fn_ok (k := k) O62_ok mixed Try.func62 (root := body Try.f62) (by kernel_rfl) z62_ok h62_ok ?_
  refine Lo.of (b := (if (l0.length : Int) = (l0.length : Int) then (if 0 ≤ (l0.length : Int) then (if (l0.length : Int) < 17592186044417 then ((laws_toAccountS.l0 k l0 (List.replicate ((l0.length : Int)).toNat z88) 0).bind fun r => some (o62 l0 r)) else none) else none) else none)) (c := (laws_toAccountS.f k l0).bind fun r => some (o62 l0 r)) (by kernel_rfl) ?_ _ (by rw [h]; rfl)
  · unfold laws_toAccountS.f
    repeat' first
    | with_reducible exact none_L
    | with_reducible refine letB_L (fun _ _ => ?_)
    | with_reducible refine bind_L (fun _ => ?_)
    | with_reducible refine ite_L (fun _ => ?_) (fun _ => ?_)
    | with_reducible refine drop_L (by first | assumption | omega | (simp only [*, List.length_set]; done)) ?_
    | with_reducible refine let_L ?_
    | with_reducible refine some_L ?_
    | with_reducible refine letT_L ?_
    | with_reducible refine ite_I (by omega) (fun _ => ?_) (fun _ => ?_)
    | rfl
    | simp only [Bool.decide_eq_true]
    | exact Lo.refl _
    | (refine Lo.eq ?_; simp only [Bool.decide_eq_true]; done)
    | refine ite_L (fun _ => ?_) (fun _ => ?_)
theorem d62 : Sound Try.prog ⟨62, false, Q62⟩ := sound_of ⟨_, Try.func62, by kernel_rfl, by kernel_rfl⟩ fun k args hp Z K z h => by
  unfold Q62 at h
  split at h
  · obtain ⟨r, hr, hK⟩ := Option.bind_eq_some_iff.1 h
    exact ⟨_, hK, g62 k _ r hr⟩
  · cases h
def o88 (r : Int × Int) : Out Rw := ⟨[.ag [.sc (.i .i64 r.1), .sc (.i .i64 r.2)]], []⟩
def Q88 : Mean Rw := fun k a h Z K => match a, h with
  | [.w (.ag [.sc (.i .i64 a0_0), .sc (.i .i64 a0_1)])], [] => (laws_toInstr.f a0_0 a0_1).bind fun r => K (o88 r)
  | _, _ => none
def O88 : List (Cal Rw) := []
theorem O88_ok : ∀ c ∈ O88, Sound Try.prog c := by
  intro c hc
  simp only [O88, List.mem_cons, List.not_mem_nil, or_false] at hc
def K88 : List (Cut Rw) := []
theorem z88_ok : ∀ c ∈ K88, ∀ st, c.f 0 st = none := by
  intro c hc st
  simp only [K88, List.mem_cons, List.not_mem_nil, or_false] at hc
theorem h88_ok : ∀ c ∈ K88, ∀ k st out, c.f (k + 1) st = some out → seg Try.prog O88 K88 k (body Try.f88) (kEnd Try.prog Try.f88.results.toList) c.p st = some out := by
  intro c hc k st out h
  simp only [K88, List.mem_cons, List.not_mem_nil, or_false] at hc
theorem g88 (k : Nat) (a0_0 : Int) (a0_1 : Int) (r : Int × Int) (h : laws_toInstr.f a0_0 a0_1 = some r) : Good Try.prog 88 [.w (.ag [.sc (.i .i64 a0_0), .sc (.i .i64 a0_1)])] [] (o88 r) := by
  refine fn_ok (k := k) O88_ok mixed Try.func88 (root := body Try.f88) (by kernel_rfl) z88_ok h88_ok ?_
  refine Lo.of (b := (some (o88 (a0_0, a0_1)))) (c := (laws_toInstr.f a0_0 a0_1).bind fun r => some (o88 r)) (by kernel_rfl) ?_ _ (by rw [h]; rfl)
  · unfold laws_toInstr.f
    repeat' first
    | with_reducible exact none_L
    | with_reducible refine letB_L (fun _ _ => ?_)
    | with_reducible refine bind_L (fun _ => ?_)
    | with_reducible refine ite_L (fun _ => ?_) (fun _ => ?_)
    | with_reducible refine drop_L (by first | assumption | omega | (simp only [*, List.length_set]; done)) ?_
    | with_reducible refine let_L ?_
    | with_reducible refine some_L ?_
    | with_reducible refine letT_L ?_
    | with_reducible refine ite_I (by omega) (fun _ => ?_) (fun _ => ?_)
    | rfl
    | simp only [Bool.decide_eq_true]
    | exact Lo.refl _
    | (refine Lo.eq ?_; simp only [Bool.decide_eq_true]; done)
    | refine ite_L (fun _ => ?_) (fun _ => ?_)
theorem d88 : Sound Try.prog ⟨88, false, Q88⟩ := sound_of ⟨_, Try.func88, by kernel_rfl, by kernel_rfl⟩ fun k args hp Z K z h => by
  unfold Q88 at h
  split at h
  · obtain ⟨r, hr, hK⟩ := Option.bind_eq_some_iff.1 h
    exact ⟨_, hK, g88 k _ _ r hr⟩
  · cases h
def o63 (l0 : List S108) (r : (List (S90))) : Out Rw := ⟨[.c (.rw 1)], [.rows 0 (.e108 l0), .rows 2 (.e90 r)]⟩
def Q63 : Mean Rw := fun k a h Z K => match a, h with
  | [.w (.c (.rw 0))], [.rows 0 (.e108 l0)] => (laws_toInstrS.f k l0).bind fun r => K (o63 l0 r)
  | _, _ => none
def O63 : List (Cal Rw) := [⟨88, false, Q88⟩]
theorem O63_ok : ∀ c ∈ O63, Sound Try.prog c := by
  intro c hc
  simp only [O63, List.mem_cons, List.not_mem_nil, or_false] at hc
  rcases hc with rfl
  · exact d88
def C63_0 : Nat → St Rw → Option (Out Rw) := fun k st => match st with
  | ⟨23, 1, 2, [(0, .w (.c (.rw 0))), (3, .w (.c (.rw 1))), (4, .w (.c (.sc (.i .i64 x4))))], [(0, .rows 0 (.e108 l0)), (1, .rows 2 (.e90 y1))]⟩ => (laws_toInstrS.l0 k l0 y1 x4).bind fun r => some (o63 l0 r)
  | _ => none
def K63 : List (Cut Rw) := [⟨[false, true, false, true, true], [0, 3, 4], C63_0⟩]
theorem e63_0 (k : Nat) (x4 : Int) (l0 : List S108) (y1 : List S90) : Lo (seg Try.prog O63 K63 k (body Try.f63) (kEnd Try.prog Try.f63.results.toList) [false, true, false, true, true] ⟨23, 1, 2, [(0, .w (.c (.rw 0))), (3, .w (.c (.rw 1))), (4, .w (.c (.sc (.i .i64 x4))))], [(0, .rows 0 (.e108 l0)), (1, .rows 2 (.e90 y1))]⟩) ((laws_toInstrS.l0 (k + 1) l0 y1 x4).bind fun r => some (o63 l0 r)) :=
  Lo.of (b := (if x4 < (l0.length : Int) then (if 0 ≤ x4 then (if x4 < (l0.length : Int) then ((laws_toInstr.f (rd_T108 l0 x4).f0 (rd_T108 l0 x4).f1).bind fun r4 => (if 0 ≤ x4 then (if x4 < (y1.length : Int) then ((some (y1.set x4.toNat (⟨r4.1, r4.2⟩ : S90))).bind fun y5 => ((laws_toInstrS.l0 k l0 y5 (RowKit.wrap64 (x4 + 1))).bind fun r => some (o63 l0 r))) else none) else none)) else none) else none) else (some (o63 l0 y1)))) (by kernel_rfl) (by
    rw [laws_toInstrS.l0]
    repeat' first
    | with_reducible exact none_L
    | with_reducible refine letB_L (fun _ _ => ?_)
    | with_reducible refine bind_L (fun _ => ?_)
    | with_reducible refine ite_L (fun _ => ?_) (fun _ => ?_)
    | with_reducible refine drop_L (by first | assumption | omega | (simp only [*, List.length_set]; done)) ?_
    | with_reducible refine let_L ?_
    | with_reducible refine some_L ?_
    | with_reducible refine letT_L ?_
    | with_reducible refine ite_I (by omega) (fun _ => ?_) (fun _ => ?_)
    | rfl
    | simp only [Bool.decide_eq_true]
    | exact Lo.refl _
    | (refine Lo.eq ?_; simp only [Bool.decide_eq_true]; done)
    | refine ite_L (fun _ => ?_) (fun _ => ?_))
theorem h63_0 (k : Nat) (st : St Rw) (out : Out Rw) (h : C63_0 (k + 1) st = some out) : seg Try.prog O63 K63 k (body Try.f63) (kEnd Try.prog Try.f63.results.toList) [false, true, false, true, true] st = some out := by
  unfold C63_0 at h
  split at h
  · exact e63_0 _ _ _ _ out h
  · cases h
theorem z63_ok : ∀ c ∈ K63, ∀ st, c.f 0 st = none := by
  intro c hc st
  simp only [K63, List.mem_cons, List.not_mem_nil, or_false] at hc
  rcases hc with rfl
  · show C63_0 0 st = none; unfold C63_0; split <;> rfl
theorem h63_ok : ∀ c ∈ K63, ∀ k st out, c.f (k + 1) st = some out → seg Try.prog O63 K63 k (body Try.f63) (kEnd Try.prog Try.f63.results.toList) c.p st = some out := by
  intro c hc k st out h
  simp only [K63, List.mem_cons, List.not_mem_nil, or_false] at hc
  rcases hc with rfl
  · exact h63_0 k st out h
theorem g63 (k : Nat) (l0 : List (S108)) (r : (List (S90))) (h : laws_toInstrS.f k l0 = some r) : Good Try.prog 63 [.w (.c (.rw 0))] [.rows 0 (.e108 l0)] (o63 l0 r) := by
  refine fn_ok (k := k) O63_ok mixed Try.func63 (root := body Try.f63) (by kernel_rfl) z63_ok h63_ok ?_
  refine Lo.of (b := (if (l0.length : Int) = (l0.length : Int) then (if 0 ≤ (l0.length : Int) then (if (l0.length : Int) < 17592186044417 then ((laws_toInstrS.l0 k l0 (List.replicate ((l0.length : Int)).toNat z90) 0).bind fun r => some (o63 l0 r)) else none) else none) else none)) (c := (laws_toInstrS.f k l0).bind fun r => some (o63 l0 r)) (by kernel_rfl) ?_ _ (by rw [h]; rfl)
  · unfold laws_toInstrS.f
    repeat' first
    | with_reducible exact none_L
    | with_reducible refine letB_L (fun _ _ => ?_)
    | with_reducible refine bind_L (fun _ => ?_)
    | with_reducible refine ite_L (fun _ => ?_) (fun _ => ?_)
    | with_reducible refine drop_L (by first | assumption | omega | (simp only [*, List.length_set]; done)) ?_
    | with_reducible refine let_L ?_
    | with_reducible refine some_L ?_
    | with_reducible refine letT_L ?_
    | with_reducible refine ite_I (by omega) (fun _ => ?_) (fun _ => ?_)
    | rfl
    | simp only [Bool.decide_eq_true]
    | exact Lo.refl _
    | (refine Lo.eq ?_; simp only [Bool.decide_eq_true]; done)
    | refine ite_L (fun _ => ?_) (fun _ => ?_)
theorem d63 : Sound Try.prog ⟨63, false, Q63⟩ := sound_of ⟨_, Try.func63, by kernel_rfl, by kernel_rfl⟩ fun k args hp Z K z h => by
  unfold Q63 at h
  split at h
  · obtain ⟨r, hr, hK⟩ := Option.bind_eq_some_iff.1 h
    exact ⟨_, hK, g63 k _ r hr⟩
  · cases h
def o89 (r : Int × Int × Int) : Out Rw := ⟨[.ag [.sc (.i .i64 r.1), .sc (.i .i64 r.2.1), .sc (.i .i64 r.2.2)]], []⟩
def Q89 : Mean Rw := fun k a h Z K => match a, h with
  | [.w (.ag [.sc (.i .i64 a0_0), .sc (.i .i64 a0_1), .sc (.i .i64 a0_2)])], [] => (laws_toBal.f a0_0 a0_1 a0_2).bind fun r => K (o89 r)
  | _, _ => none
def O89 : List (Cal Rw) := []
theorem O89_ok : ∀ c ∈ O89, Sound Try.prog c := by
  intro c hc
  simp only [O89, List.mem_cons, List.not_mem_nil, or_false] at hc
def K89 : List (Cut Rw) := []
theorem z89_ok : ∀ c ∈ K89, ∀ st, c.f 0 st = none := by
  intro c hc st
  simp only [K89, List.mem_cons, List.not_mem_nil, or_false] at hc
theorem h89_ok : ∀ c ∈ K89, ∀ k st out, c.f (k + 1) st = some out → seg Try.prog O89 K89 k (body Try.f89) (kEnd Try.prog Try.f89.results.toList) c.p st = some out := by
  intro c hc k st out h
  simp only [K89, List.mem_cons, List.not_mem_nil, or_false] at hc
theorem g89 (k : Nat) (a0_0 : Int) (a0_1 : Int) (a0_2 : Int) (r : Int × Int × Int) (h : laws_toBal.f a0_0 a0_1 a0_2 = some r) : Good Try.prog 89 [.w (.ag [.sc (.i .i64 a0_0), .sc (.i .i64 a0_1), .sc (.i .i64 a0_2)])] [] (o89 r) := by
  refine fn_ok (k := k) O89_ok mixed Try.func89 (root := body Try.f89) (by kernel_rfl) z89_ok h89_ok ?_
  refine Lo.of (b := (some (o89 (a0_0, a0_1, a0_2)))) (c := (laws_toBal.f a0_0 a0_1 a0_2).bind fun r => some (o89 r)) (by kernel_rfl) ?_ _ (by rw [h]; rfl)
  · unfold laws_toBal.f
    repeat' first
    | with_reducible exact none_L
    | with_reducible refine letB_L (fun _ _ => ?_)
    | with_reducible refine bind_L (fun _ => ?_)
    | with_reducible refine ite_L (fun _ => ?_) (fun _ => ?_)
    | with_reducible refine drop_L (by first | assumption | omega | (simp only [*, List.length_set]; done)) ?_
    | with_reducible refine let_L ?_
    | with_reducible refine some_L ?_
    | with_reducible refine letT_L ?_
    | with_reducible refine ite_I (by omega) (fun _ => ?_) (fun _ => ?_)
    | rfl
    | simp only [Bool.decide_eq_true]
    | exact Lo.refl _
    | (refine Lo.eq ?_; simp only [Bool.decide_eq_true]; done)
    | refine ite_L (fun _ => ?_) (fun _ => ?_)
theorem d89 : Sound Try.prog ⟨89, false, Q89⟩ := sound_of ⟨_, Try.func89, by kernel_rfl, by kernel_rfl⟩ fun k args hp Z K z h => by
  unfold Q89 at h
  split at h
  · obtain ⟨r, hr, hK⟩ := Option.bind_eq_some_iff.1 h
    exact ⟨_, hK, g89 k _ _ _ r hr⟩
  · cases h
def o64 (l0 : List S110) (r : (List (S93))) : Out Rw := ⟨[.c (.rw 1)], [.rows 0 (.e110 l0), .rows 2 (.e93 r)]⟩
def Q64 : Mean Rw := fun k a h Z K => match a, h with
  | [.w (.c (.rw 0))], [.rows 0 (.e110 l0)] => (laws_toBalS.f k l0).bind fun r => K (o64 l0 r)
  | _, _ => none
def O64 : List (Cal Rw) := [⟨89, false, Q89⟩]
theorem O64_ok : ∀ c ∈ O64, Sound Try.prog c := by
  intro c hc
  simp only [O64, List.mem_cons, List.not_mem_nil, or_false] at hc
  rcases hc with rfl
  · exact d89
def C64_0 : Nat → St Rw → Option (Out Rw) := fun k st => match st with
  | ⟨23, 1, 2, [(0, .w (.c (.rw 0))), (3, .w (.c (.rw 1))), (4, .w (.c (.sc (.i .i64 x4))))], [(0, .rows 0 (.e110 l0)), (1, .rows 2 (.e93 y1))]⟩ => (laws_toBalS.l0 k l0 y1 x4).bind fun r => some (o64 l0 r)
  | _ => none
def K64 : List (Cut Rw) := [⟨[false, true, false, true, true], [0, 3, 4], C64_0⟩]
theorem e64_0 (k : Nat) (x4 : Int) (l0 : List S110) (y1 : List S93) : Lo (seg Try.prog O64 K64 k (body Try.f64) (kEnd Try.prog Try.f64.results.toList) [false, true, false, true, true] ⟨23, 1, 2, [(0, .w (.c (.rw 0))), (3, .w (.c (.rw 1))), (4, .w (.c (.sc (.i .i64 x4))))], [(0, .rows 0 (.e110 l0)), (1, .rows 2 (.e93 y1))]⟩) ((laws_toBalS.l0 (k + 1) l0 y1 x4).bind fun r => some (o64 l0 r)) :=
  Lo.of (b := (if x4 < (l0.length : Int) then (if 0 ≤ x4 then (if x4 < (l0.length : Int) then ((laws_toBal.f (rd_T110 l0 x4).f0 (rd_T110 l0 x4).f1 (rd_T110 l0 x4).f2).bind fun r4 => (if 0 ≤ x4 then (if x4 < (y1.length : Int) then ((some (y1.set x4.toNat (⟨r4.1, r4.2.1, r4.2.2⟩ : S93))).bind fun y5 => ((laws_toBalS.l0 k l0 y5 (RowKit.wrap64 (x4 + 1))).bind fun r => some (o64 l0 r))) else none) else none)) else none) else none) else (some (o64 l0 y1)))) (by kernel_rfl) (by
    rw [laws_toBalS.l0]
    repeat' first
    | with_reducible exact none_L
    | with_reducible refine letB_L (fun _ _ => ?_)
    | with_reducible refine bind_L (fun _ => ?_)
    | with_reducible refine ite_L (fun _ => ?_) (fun _ => ?_)
    | with_reducible refine drop_L (by first | assumption | omega | (simp only [*, List.length_set]; done)) ?_
    | with_reducible refine let_L ?_
    | with_reducible refine some_L ?_
    | with_reducible refine letT_L ?_
    | with_reducible refine ite_I (by omega) (fun _ => ?_) (fun _ => ?_)
    | rfl
    | simp only [Bool.decide_eq_true]
    | exact Lo.refl _
    | (refine Lo.eq ?_; simp only [Bool.decide_eq_true]; done)
    | refine ite_L (fun _ => ?_) (fun _ => ?_))
theorem h64_0 (k : Nat) (st : St Rw) (out : Out Rw) (h : C64_0 (k + 1) st = some out) : seg Try.prog O64 K64 k (body Try.f64) (kEnd Try.prog Try.f64.results.toList) [false, true, false, true, true] st = some out := by
  unfold C64_0 at h
  split at h
  · exact e64_0 _ _ _ _ out h
  · cases h
theorem z64_ok : ∀ c ∈ K64, ∀ st, c.f 0 st = none := by
  intro c hc st
  simp only [K64, List.mem_cons, List.not_mem_nil, or_false] at hc
  rcases hc with rfl
  · show C64_0 0 st = none; unfold C64_0; split <;> rfl
theorem h64_ok : ∀ c ∈ K64, ∀ k st out, c.f (k + 1) st = some out → seg Try.prog O64 K64 k (body Try.f64) (kEnd Try.prog Try.f64.results.toList) c.p st = some out := by
  intro c hc k st out h
  simp only [K64, List.mem_cons, List.not_mem_nil, or_false] at hc
  rcases hc with rfl
  · exact h64_0 k st out h
theorem g64 (k : Nat) (l0 : List (S110)) (r : (List (S93))) (h : laws_toBalS.f k l0 = some r) : Good Try.prog 64 [.w (.c (.rw 0))] [.rows 0 (.e110 l0)] (o64 l0 r) := by
  refine fn_ok (k := k) O64_ok mixed Try.func64 (root := body Try.f64) (by kernel_rfl) z64_ok h64_ok ?_
  refine Lo.of (b := (if (l0.length : Int) = (l0.length : Int) then (if 0 ≤ (l0.length : Int) then (if (l0.length : Int) < 11728124029611 then ((laws_toBalS.l0 k l0 (List.replicate ((l0.length : Int)).toNat z93) 0).bind fun r => some (o64 l0 r)) else none) else none) else none)) (c := (laws_toBalS.f k l0).bind fun r => some (o64 l0 r)) (by kernel_rfl) ?_ _ (by rw [h]; rfl)
  · unfold laws_toBalS.f
    repeat' first
    | with_reducible exact none_L
    | with_reducible refine letB_L (fun _ _ => ?_)
    | with_reducible refine bind_L (fun _ => ?_)
    | with_reducible refine ite_L (fun _ => ?_) (fun _ => ?_)
    | with_reducible refine drop_L (by first | assumption | omega | (simp only [*, List.length_set]; done)) ?_
    | with_reducible refine let_L ?_
    | with_reducible refine some_L ?_
    | with_reducible refine letT_L ?_
    | with_reducible refine ite_I (by omega) (fun _ => ?_) (fun _ => ?_)
    | rfl
    | simp only [Bool.decide_eq_true]
    | exact Lo.refl _
    | (refine Lo.eq ?_; simp only [Bool.decide_eq_true]; done)
    | refine ite_L (fun _ => ?_) (fun _ => ?_)
theorem d64 : Sound Try.prog ⟨64, false, Q64⟩ := sound_of ⟨_, Try.func64, by kernel_rfl, by kernel_rfl⟩ fun k args hp Z K z h => by
  unfold Q64 at h
  split at h
  · obtain ⟨r, hr, hK⟩ := Option.bind_eq_some_iff.1 h
    exact ⟨_, hK, g64 k _ r hr⟩
  · cases h
end Go.Proofs.Ytmfgajbkcnlkcaa.AI
namespace Go.Proofs.Ytmfgajbkcnlkcaa.AI
open Go Go.RowKit Go.Proofs.YtmfgajbkcnlkcaaW.PrintWords Go.Proofs.Ytmfgajbkcnlkcaa.P
set_option linter.unusedVariables false
set_option linter.all false
set_option maxRecDepth 100000
def o90 (r : Int × Int × Int × Int × Int) : Out Rw := ⟨[.ag [.sc (.i .i64 r.1), .sc (.i .i64 r.2.1), .sc (.i .i64 r.2.2.1), .sc (.i .i64 r.2.2.2.1), .sc (.i .i64 r.2.2.2.2)]], []⟩
def Q90 : Mean Rw := fun k a h Z K => match a, h with
  | [.w (.ag [.sc (.i .i64 a0_0), .sc (.i .i64 a0_1), .sc (.i .i64 a0_2), .sc (.i .i64 a0_3), .sc (.i .i64 a0_4)])], [] => (laws_toLot.f a0_0 a0_1 a0_2 a0_3 a0_4).bind fun r => K (o90 r)
  | _, _ => none
def O90 : List (Cal Rw) := []
theorem O90_ok : ∀ c ∈ O90, Sound Try.prog c := by
  intro c hc
  simp only [O90, List.mem_cons, List.not_mem_nil, or_false] at hc
def K90 : List (Cut Rw) := []
theorem z90_ok : ∀ c ∈ K90, ∀ st, c.f 0 st = none := by
  intro c hc st
  simp only [K90, List.mem_cons, List.not_mem_nil, or_false] at hc
theorem h90_ok : ∀ c ∈ K90, ∀ k st out, c.f (k + 1) st = some out → seg Try.prog O90 K90 k (body Try.f90) (kEnd Try.prog Try.f90.results.toList) c.p st = some out := by
  intro c hc k st out h
  simp only [K90, List.mem_cons, List.not_mem_nil, or_false] at hc
theorem g90 (k : Nat) (a0_0 : Int) (a0_1 : Int) (a0_2 : Int) (a0_3 : Int) (a0_4 : Int) (r : Int × Int × Int × Int × Int) (h : laws_toLot.f a0_0 a0_1 a0_2 a0_3 a0_4 = some r) : Good Try.prog 90 [.w (.ag [.sc (.i .i64 a0_0), .sc (.i .i64 a0_1), .sc (.i .i64 a0_2), .sc (.i .i64 a0_3), .sc (.i .i64 a0_4)])] [] (o90 r) := by
  refine fn_ok (k := k) O90_ok mixed Try.func90 (root := body Try.f90) (by kernel_rfl) z90_ok h90_ok ?_
  refine Lo.of (b := (some (o90 (a0_0, a0_1, a0_2, a0_3, a0_4)))) (c := (laws_toLot.f a0_0 a0_1 a0_2 a0_3 a0_4).bind fun r => some (o90 r)) (by kernel_rfl) ?_ _ (by rw [h]; rfl)
  · unfold laws_toLot.f
    repeat' first
    | with_reducible exact none_L
    | with_reducible refine letB_L (fun _ _ => ?_)
    | with_reducible refine bind_L (fun _ => ?_)
    | with_reducible refine ite_L (fun _ => ?_) (fun _ => ?_)
    | with_reducible refine drop_L (by first | assumption | omega | (simp only [*, List.length_set]; done)) ?_
    | with_reducible refine let_L ?_
    | with_reducible refine some_L ?_
    | with_reducible refine letT_L ?_
    | with_reducible refine ite_I (by omega) (fun _ => ?_) (fun _ => ?_)
    | rfl
    | simp only [Bool.decide_eq_true]
    | exact Lo.refl _
    | (refine Lo.eq ?_; simp only [Bool.decide_eq_true]; done)
    | refine ite_L (fun _ => ?_) (fun _ => ?_)
theorem d90 : Sound Try.prog ⟨90, false, Q90⟩ := sound_of ⟨_, Try.func90, by kernel_rfl, by kernel_rfl⟩ fun k args hp Z K z h => by
  unfold Q90 at h
  split at h
  · obtain ⟨r, hr, hK⟩ := Option.bind_eq_some_iff.1 h
    exact ⟨_, hK, g90 k _ _ _ _ _ r hr⟩
  · cases h
def o65 (l0 : List S112) (r : (List (S96))) : Out Rw := ⟨[.c (.rw 1)], [.rows 0 (.e112 l0), .rows 2 (.e96 r)]⟩
def Q65 : Mean Rw := fun k a h Z K => match a, h with
  | [.w (.c (.rw 0))], [.rows 0 (.e112 l0)] => (laws_toLotS.f k l0).bind fun r => K (o65 l0 r)
  | _, _ => none
def O65 : List (Cal Rw) := [⟨90, false, Q90⟩]
theorem O65_ok : ∀ c ∈ O65, Sound Try.prog c := by
  intro c hc
  simp only [O65, List.mem_cons, List.not_mem_nil, or_false] at hc
  rcases hc with rfl
  · exact d90
def C65_0 : Nat → St Rw → Option (Out Rw) := fun k st => match st with
  | ⟨23, 1, 2, [(0, .w (.c (.rw 0))), (3, .w (.c (.rw 1))), (4, .w (.c (.sc (.i .i64 x4))))], [(0, .rows 0 (.e112 l0)), (1, .rows 2 (.e96 y1))]⟩ => (laws_toLotS.l0 k l0 y1 x4).bind fun r => some (o65 l0 r)
  | _ => none
def K65 : List (Cut Rw) := [⟨[false, true, false, true, true], [0, 3, 4], C65_0⟩]
theorem e65_0 (k : Nat) (x4 : Int) (l0 : List S112) (y1 : List S96) : Lo (seg Try.prog O65 K65 k (body Try.f65) (kEnd Try.prog Try.f65.results.toList) [false, true, false, true, true] ⟨23, 1, 2, [(0, .w (.c (.rw 0))), (3, .w (.c (.rw 1))), (4, .w (.c (.sc (.i .i64 x4))))], [(0, .rows 0 (.e112 l0)), (1, .rows 2 (.e96 y1))]⟩) ((laws_toLotS.l0 (k + 1) l0 y1 x4).bind fun r => some (o65 l0 r)) :=
  Lo.of (b := (if x4 < (l0.length : Int) then (if 0 ≤ x4 then (if x4 < (l0.length : Int) then ((laws_toLot.f (rd_T112 l0 x4).f0 (rd_T112 l0 x4).f1 (rd_T112 l0 x4).f2 (rd_T112 l0 x4).f3 (rd_T112 l0 x4).f4).bind fun r4 => (if 0 ≤ x4 then (if x4 < (y1.length : Int) then ((some (y1.set x4.toNat (⟨r4.1, r4.2.1, r4.2.2.1, r4.2.2.2.1, r4.2.2.2.2⟩ : S96))).bind fun y5 => ((laws_toLotS.l0 k l0 y5 (RowKit.wrap64 (x4 + 1))).bind fun r => some (o65 l0 r))) else none) else none)) else none) else none) else (some (o65 l0 y1)))) (by kernel_rfl) (by
    rw [laws_toLotS.l0]
    repeat' first
    | with_reducible exact none_L
    | with_reducible refine letB_L (fun _ _ => ?_)
    | with_reducible refine bind_L (fun _ => ?_)
    | with_reducible refine ite_L (fun _ => ?_) (fun _ => ?_)
    | with_reducible refine drop_L (by first | assumption | omega | (simp only [*, List.length_set]; done)) ?_
    | with_reducible refine let_L ?_
    | with_reducible refine some_L ?_
    | with_reducible refine letT_L ?_
    | with_reducible refine ite_I (by omega) (fun _ => ?_) (fun _ => ?_)
    | rfl
    | simp only [Bool.decide_eq_true]
    | exact Lo.refl _
    | (refine Lo.eq ?_; simp only [Bool.decide_eq_true]; done)
    | refine ite_L (fun _ => ?_) (fun _ => ?_))
theorem h65_0 (k : Nat) (st : St Rw) (out : Out Rw) (h : C65_0 (k + 1) st = some out) : seg Try.prog O65 K65 k (body Try.f65) (kEnd Try.prog Try.f65.results.toList) [false, true, false, true, true] st = some out := by
  unfold C65_0 at h
  split at h
  · exact e65_0 _ _ _ _ out h
  · cases h
theorem z65_ok : ∀ c ∈ K65, ∀ st, c.f 0 st = none := by
  intro c hc st
  simp only [K65, List.mem_cons, List.not_mem_nil, or_false] at hc
  rcases hc with rfl
  · show C65_0 0 st = none; unfold C65_0; split <;> rfl
theorem h65_ok : ∀ c ∈ K65, ∀ k st out, c.f (k + 1) st = some out → seg Try.prog O65 K65 k (body Try.f65) (kEnd Try.prog Try.f65.results.toList) c.p st = some out := by
  intro c hc k st out h
  simp only [K65, List.mem_cons, List.not_mem_nil, or_false] at hc
  rcases hc with rfl
  · exact h65_0 k st out h
theorem g65 (k : Nat) (l0 : List (S112)) (r : (List (S96))) (h : laws_toLotS.f k l0 = some r) : Good Try.prog 65 [.w (.c (.rw 0))] [.rows 0 (.e112 l0)] (o65 l0 r) := by
  refine fn_ok (k := k) O65_ok mixed Try.func65 (root := body Try.f65) (by kernel_rfl) z65_ok h65_ok ?_
  refine Lo.of (b := (if (l0.length : Int) = (l0.length : Int) then (if 0 ≤ (l0.length : Int) then (if (l0.length : Int) < 7036874417767 then ((laws_toLotS.l0 k l0 (List.replicate ((l0.length : Int)).toNat z96) 0).bind fun r => some (o65 l0 r)) else none) else none) else none)) (c := (laws_toLotS.f k l0).bind fun r => some (o65 l0 r)) (by kernel_rfl) ?_ _ (by rw [h]; rfl)
  · unfold laws_toLotS.f
    repeat' first
    | with_reducible exact none_L
    | with_reducible refine letB_L (fun _ _ => ?_)
    | with_reducible refine bind_L (fun _ => ?_)
    | with_reducible refine ite_L (fun _ => ?_) (fun _ => ?_)
    | with_reducible refine drop_L (by first | assumption | omega | (simp only [*, List.length_set]; done)) ?_
    | with_reducible refine let_L ?_
    | with_reducible refine some_L ?_
    | with_reducible refine letT_L ?_
    | with_reducible refine ite_I (by omega) (fun _ => ?_) (fun _ => ?_)
    | rfl
    | simp only [Bool.decide_eq_true]
    | exact Lo.refl _
    | (refine Lo.eq ?_; simp only [Bool.decide_eq_true]; done)
    | refine ite_L (fun _ => ?_) (fun _ => ?_)
theorem d65 : Sound Try.prog ⟨65, false, Q65⟩ := sound_of ⟨_, Try.func65, by kernel_rfl, by kernel_rfl⟩ fun k args hp Z K z h => by
  unfold Q65 at h
  split at h
  · obtain ⟨r, hr, hK⟩ := Option.bind_eq_some_iff.1 h
    exact ⟨_, hK, g65 k _ r hr⟩
  · cases h
def o33 (r : Int × Int × Int × Int × Int × Int × Int × Int) : Out Rw := ⟨[.ag [.sc (.i .i64 r.1), .sc (.i .i64 r.2.1), .sc (.i .i64 r.2.2.1), .sc (.i .i64 r.2.2.2.1), .sc (.i .i64 r.2.2.2.2.1), .sc (.i .i64 r.2.2.2.2.2.1), .sc (.i .i64 r.2.2.2.2.2.2.1), .sc (.i .i64 r.2.2.2.2.2.2.2)]], []⟩
def Q33 : Mean Rw := fun k a h Z K => match a, h with
  | [.w (.ag [.sc (.i .i64 a0_0), .sc (.i .i64 a0_1), .sc (.i .i64 a0_2), .sc (.i .i64 a0_3), .sc (.i .i64 a0_4), .sc (.i .i64 a0_5), .sc (.i .i64 a0_6), .sc (.i .i64 a0_7)])], [] => (laws_toTrade.f a0_0 a0_1 a0_2 a0_3 a0_4 a0_5 a0_6 a0_7).bind fun r => K (o33 r)
  | _, _ => none
def O33 : List (Cal Rw) := []
theorem O33_ok : ∀ c ∈ O33, Sound Try.prog c := by
  intro c hc
  simp only [O33, List.mem_cons, List.not_mem_nil, or_false] at hc
def K33 : List (Cut Rw) := []
theorem z33_ok : ∀ c ∈ K33, ∀ st, c.f 0 st = none := by
  intro c hc st
  simp only [K33, List.mem_cons, List.not_mem_nil, or_false] at hc
theorem h33_ok : ∀ c ∈ K33, ∀ k st out, c.f (k + 1) st = some out → seg Try.prog O33 K33 k (body Try.f33) (kEnd Try.prog Try.f33.results.toList) c.p st = some out := by
  intro c hc k st out h
  simp only [K33, List.mem_cons, List.not_mem_nil, or_false] at hc
theorem g33 (k : Nat) (a0_0 : Int) (a0_1 : Int) (a0_2 : Int) (a0_3 : Int) (a0_4 : Int) (a0_5 : Int) (a0_6 : Int) (a0_7 : Int) (r : Int × Int × Int × Int × Int × Int × Int × Int) (h : laws_toTrade.f a0_0 a0_1 a0_2 a0_3 a0_4 a0_5 a0_6 a0_7 = some r) : Good Try.prog 33 [.w (.ag [.sc (.i .i64 a0_0), .sc (.i .i64 a0_1), .sc (.i .i64 a0_2), .sc (.i .i64 a0_3), .sc (.i .i64 a0_4), .sc (.i .i64 a0_5), .sc (.i .i64 a0_6), .sc (.i .i64 a0_7)])] [] (o33 r) := by
  refine fn_ok (k := k) O33_ok mixed Try.func33 (root := body Try.f33) (by kernel_rfl) z33_ok h33_ok ?_
  refine Lo.of (b := (some (o33 (a0_0, a0_1, a0_2, a0_3, a0_4, a0_5, a0_6, a0_7)))) (c := (laws_toTrade.f a0_0 a0_1 a0_2 a0_3 a0_4 a0_5 a0_6 a0_7).bind fun r => some (o33 r)) (by kernel_rfl) ?_ _ (by rw [h]; rfl)
  · unfold laws_toTrade.f
    repeat' first
    | with_reducible exact none_L
    | with_reducible refine letB_L (fun _ _ => ?_)
    | with_reducible refine bind_L (fun _ => ?_)
    | with_reducible refine ite_L (fun _ => ?_) (fun _ => ?_)
    | with_reducible refine drop_L (by first | assumption | omega | (simp only [*, List.length_set]; done)) ?_
    | with_reducible refine let_L ?_
    | with_reducible refine some_L ?_
    | with_reducible refine letT_L ?_
    | with_reducible refine ite_I (by omega) (fun _ => ?_) (fun _ => ?_)
    | rfl
    | simp only [Bool.decide_eq_true]
    | exact Lo.refl _
    | (refine Lo.eq ?_; simp only [Bool.decide_eq_true]; done)
    | refine ite_L (fun _ => ?_) (fun _ => ?_)
theorem d33 : Sound Try.prog ⟨33, false, Q33⟩ := sound_of ⟨_, Try.func33, by kernel_rfl, by kernel_rfl⟩ fun k args hp Z K z h => by
  unfold Q33 at h
  split at h
  · obtain ⟨r, hr, hK⟩ := Option.bind_eq_some_iff.1 h
    exact ⟨_, hK, g33 k _ _ _ _ _ _ _ _ r hr⟩
  · cases h
def o10 (l0 : List S64) (r : (List (S50))) : Out Rw := ⟨[.c (.rw 1)], [.rows 0 (.e64 l0), .rows 2 (.e50 r)]⟩
def Q10 : Mean Rw := fun k a h Z K => match a, h with
  | [.w (.c (.rw 0))], [.rows 0 (.e64 l0)] => (laws_toTradeS.f k l0).bind fun r => K (o10 l0 r)
  | _, _ => none
def O10 : List (Cal Rw) := [⟨33, false, Q33⟩]
theorem O10_ok : ∀ c ∈ O10, Sound Try.prog c := by
  intro c hc
  simp only [O10, List.mem_cons, List.not_mem_nil, or_false] at hc
  rcases hc with rfl
  · exact d33
def C10_0 : Nat → St Rw → Option (Out Rw) := fun k st => match st with
  | ⟨23, 1, 2, [(0, .w (.c (.rw 0))), (3, .w (.c (.rw 1))), (4, .w (.c (.sc (.i .i64 x4))))], [(0, .rows 0 (.e64 l0)), (1, .rows 2 (.e50 y1))]⟩ => (laws_toTradeS.l0 k l0 y1 x4).bind fun r => some (o10 l0 r)
  | _ => none
def K10 : List (Cut Rw) := [⟨[false, true, false, true, true], [0, 3, 4], C10_0⟩]
theorem e10_0 (k : Nat) (x4 : Int) (l0 : List S64) (y1 : List S50) : Lo (seg Try.prog O10 K10 k (body Try.f10) (kEnd Try.prog Try.f10.results.toList) [false, true, false, true, true] ⟨23, 1, 2, [(0, .w (.c (.rw 0))), (3, .w (.c (.rw 1))), (4, .w (.c (.sc (.i .i64 x4))))], [(0, .rows 0 (.e64 l0)), (1, .rows 2 (.e50 y1))]⟩) ((laws_toTradeS.l0 (k + 1) l0 y1 x4).bind fun r => some (o10 l0 r)) :=
  Lo.of (b := (if x4 < (l0.length : Int) then (if 0 ≤ x4 then (if x4 < (l0.length : Int) then ((laws_toTrade.f (rd_T64 l0 x4).f0 (rd_T64 l0 x4).f1 (rd_T64 l0 x4).f2 (rd_T64 l0 x4).f3 (rd_T64 l0 x4).f4 (rd_T64 l0 x4).f5 (rd_T64 l0 x4).f6 (rd_T64 l0 x4).f7).bind fun r4 => (if 0 ≤ x4 then (if x4 < (y1.length : Int) then ((some (y1.set x4.toNat (⟨r4.1, r4.2.1, r4.2.2.1, r4.2.2.2.1, r4.2.2.2.2.1, r4.2.2.2.2.2.1, r4.2.2.2.2.2.2.1, r4.2.2.2.2.2.2.2⟩ : S50))).bind fun y5 => ((laws_toTradeS.l0 k l0 y5 (RowKit.wrap64 (x4 + 1))).bind fun r => some (o10 l0 r))) else none) else none)) else none) else none) else (some (o10 l0 y1)))) (by kernel_rfl) (by
    rw [laws_toTradeS.l0]
    repeat' first
    | with_reducible exact none_L
    | with_reducible refine letB_L (fun _ _ => ?_)
    | with_reducible refine bind_L (fun _ => ?_)
    | with_reducible refine ite_L (fun _ => ?_) (fun _ => ?_)
    | with_reducible refine drop_L (by first | assumption | omega | (simp only [*, List.length_set]; done)) ?_
    | with_reducible refine let_L ?_
    | with_reducible refine some_L ?_
    | with_reducible refine letT_L ?_
    | with_reducible refine ite_I (by omega) (fun _ => ?_) (fun _ => ?_)
    | rfl
    | simp only [Bool.decide_eq_true]
    | exact Lo.refl _
    | (refine Lo.eq ?_; simp only [Bool.decide_eq_true]; done)
    | refine ite_L (fun _ => ?_) (fun _ => ?_))
theorem h10_0 (k : Nat) (st : St Rw) (out : Out Rw) (h : C10_0 (k + 1) st = some out) : seg Try.prog O10 K10 k (body Try.f10) (kEnd Try.prog Try.f10.results.toList) [false, true, false, true, true] st = some out := by
  unfold C10_0 at h
  split at h
  · exact e10_0 _ _ _ _ out h
  · cases h
theorem z10_ok : ∀ c ∈ K10, ∀ st, c.f 0 st = none := by
  intro c hc st
  simp only [K10, List.mem_cons, List.not_mem_nil, or_false] at hc
  rcases hc with rfl
  · show C10_0 0 st = none; unfold C10_0; split <;> rfl
theorem h10_ok : ∀ c ∈ K10, ∀ k st out, c.f (k + 1) st = some out → seg Try.prog O10 K10 k (body Try.f10) (kEnd Try.prog Try.f10.results.toList) c.p st = some out := by
  intro c hc k st out h
  simp only [K10, List.mem_cons, List.not_mem_nil, or_false] at hc
  rcases hc with rfl
  · exact h10_0 k st out h
theorem g10 (k : Nat) (l0 : List (S64)) (r : (List (S50))) (h : laws_toTradeS.f k l0 = some r) : Good Try.prog 10 [.w (.c (.rw 0))] [.rows 0 (.e64 l0)] (o10 l0 r) := by
  refine fn_ok (k := k) O10_ok mixed Try.func10 (root := body Try.f10) (by kernel_rfl) z10_ok h10_ok ?_
  refine Lo.of (b := (if (l0.length : Int) = (l0.length : Int) then (if 0 ≤ (l0.length : Int) then (if (l0.length : Int) < 4398046511105 then ((laws_toTradeS.l0 k l0 (List.replicate ((l0.length : Int)).toNat z50) 0).bind fun r => some (o10 l0 r)) else none) else none) else none)) (c := (laws_toTradeS.f k l0).bind fun r => some (o10 l0 r)) (by kernel_rfl) ?_ _ (by rw [h]; rfl)
  · unfold laws_toTradeS.f
    repeat' first
    | with_reducible exact none_L
    | with_reducible refine letB_L (fun _ _ => ?_)
    | with_reducible refine bind_L (fun _ => ?_)
    | with_reducible refine ite_L (fun _ => ?_) (fun _ => ?_)
    | with_reducible refine drop_L (by first | assumption | omega | (simp only [*, List.length_set]; done)) ?_
    | with_reducible refine let_L ?_
    | with_reducible refine some_L ?_
    | with_reducible refine letT_L ?_
    | with_reducible refine ite_I (by omega) (fun _ => ?_) (fun _ => ?_)
    | rfl
    | simp only [Bool.decide_eq_true]
    | exact Lo.refl _
    | (refine Lo.eq ?_; simp only [Bool.decide_eq_true]; done)
    | refine ite_L (fun _ => ?_) (fun _ => ?_)
theorem d10 : Sound Try.prog ⟨10, false, Q10⟩ := sound_of ⟨_, Try.func10, by kernel_rfl, by kernel_rfl⟩ fun k args hp Z K z h => by
  unfold Q10 at h
  split at h
  · obtain ⟨r, hr, hK⟩ := Option.bind_eq_some_iff.1 h
    exact ⟨_, hK, g10 k _ r hr⟩
  · cases h
def o20 (l0_0 : List S106) (l0_1 : List S108) (l0_2 : List S110) (l0_3 : List S112) (l0_4 : List S64) (r : (List (S88)) × (List (S90)) × (List (S93)) × (List (S96)) × (List (S50)) × Int) : Out Rw := ⟨[.ag [.rw 5, .rw 6, .rw 7, .rw 8, .rw 9, .sc (.i .i64 r.2.2.2.2.2)]], [.rows 0 (.e106 l0_0), .rows 0 (.e108 l0_1), .rows 0 (.e110 l0_2), .rows 0 (.e112 l0_3), .rows 0 (.e64 l0_4), .rows 2 (.e88 r.1), .rows 2 (.e90 r.2.1), .rows 2 (.e93 r.2.2.1), .rows 2 (.e96 r.2.2.2.1), .rows 2 (.e50 r.2.2.2.2.1)]⟩
def Q20 : Mean Rw := fun k a h Z K => match a, h with
  | [.w (.ag [.rw 0, .rw 1, .rw 2, .rw 3, .rw 4, .sc (.i .i64 a0_5)])], [.rows 0 (.e106 l0_0), .rows 0 (.e108 l0_1), .rows 0 (.e110 l0_2), .rows 0 (.e112 l0_3), .rows 0 (.e64 l0_4)] => (laws_toBooks.f k l0_0 l0_1 l0_2 l0_3 l0_4 a0_5).bind fun r => K (o20 l0_0 l0_1 l0_2 l0_3 l0_4 r)
  | _, _ => none
def O20 : List (Cal Rw) := [⟨62, false, Q62⟩, ⟨63, false, Q63⟩, ⟨64, false, Q64⟩, ⟨65, false, Q65⟩, ⟨10, false, Q10⟩]
theorem O20_ok : ∀ c ∈ O20, Sound Try.prog c := by
  intro c hc
  simp only [O20, List.mem_cons, List.not_mem_nil, or_false] at hc
  rcases hc with rfl | rfl | rfl | rfl | rfl
  · exact d62
  · exact d63
  · exact d64
  · exact d65
  · exact d10
def K20 : List (Cut Rw) := []
theorem z20_ok : ∀ c ∈ K20, ∀ st, c.f 0 st = none := by
  intro c hc st
  simp only [K20, List.mem_cons, List.not_mem_nil, or_false] at hc
theorem h20_ok : ∀ c ∈ K20, ∀ k st out, c.f (k + 1) st = some out → seg Try.prog O20 K20 k (body Try.f20) (kEnd Try.prog Try.f20.results.toList) c.p st = some out := by
  intro c hc k st out h
  simp only [K20, List.mem_cons, List.not_mem_nil, or_false] at hc
theorem g20 (k : Nat) (l0_0 : List (S106)) (l0_1 : List (S108)) (l0_2 : List (S110)) (l0_3 : List (S112)) (l0_4 : List (S64)) (a0_5 : Int) (r : (List (S88)) × (List (S90)) × (List (S93)) × (List (S96)) × (List (S50)) × Int) (h : laws_toBooks.f k l0_0 l0_1 l0_2 l0_3 l0_4 a0_5 = some r) : Good Try.prog 20 [.w (.ag [.rw 0, .rw 1, .rw 2, .rw 3, .rw 4, .sc (.i .i64 a0_5)])] [.rows 0 (.e106 l0_0), .rows 0 (.e108 l0_1), .rows 0 (.e110 l0_2), .rows 0 (.e112 l0_3), .rows 0 (.e64 l0_4)] (o20 l0_0 l0_1 l0_2 l0_3 l0_4 r) := by
  refine fn_ok (k := k) O20_ok mixed Try.func20 (root := body Try.f20) (by kernel_rfl) z20_ok h20_ok ?_
  refine Lo.of (b := ((laws_toAccountS.f k l0_0).bind fun r7 => ((laws_toInstrS.f k l0_1).bind fun r8 => ((laws_toBalS.f k l0_2).bind fun r9 => ((laws_toLotS.f k l0_3).bind fun r10 => ((laws_toTradeS.f k l0_4).bind fun r11 => (some (o20 l0_0 l0_1 l0_2 l0_3 l0_4 (r7, r8, r9, r10, r11, a0_5))))))))) (c := (laws_toBooks.f k l0_0 l0_1 l0_2 l0_3 l0_4 a0_5).bind fun r => some (o20 l0_0 l0_1 l0_2 l0_3 l0_4 r)) (by kernel_rfl) ?_ _ (by rw [h]; rfl)
  · unfold laws_toBooks.f
    repeat' first
    | with_reducible exact none_L
    | with_reducible refine letB_L (fun _ _ => ?_)
    | with_reducible refine bind_L (fun _ => ?_)
    | with_reducible refine ite_L (fun _ => ?_) (fun _ => ?_)
    | with_reducible refine drop_L (by first | assumption | omega | (simp only [*, List.length_set]; done)) ?_
    | with_reducible refine let_L ?_
    | with_reducible refine some_L ?_
    | with_reducible refine letT_L ?_
    | with_reducible refine ite_I (by omega) (fun _ => ?_) (fun _ => ?_)
    | rfl
    | simp only [Bool.decide_eq_true]
    | exact Lo.refl _
    | (refine Lo.eq ?_; simp only [Bool.decide_eq_true]; done)
    | refine ite_L (fun _ => ?_) (fun _ => ?_)
theorem d20 : Sound Try.prog ⟨20, false, Q20⟩ := sound_of ⟨_, Try.func20, by kernel_rfl, by kernel_rfl⟩ fun k args hp Z K z h => by
  unfold Q20 at h
  split at h
  · obtain ⟨r, hr, hK⟩ := Option.bind_eq_some_iff.1 h
    exact ⟨_, hK, g20 k _ _ _ _ _ _ r hr⟩
  · cases h
def o32 (r : Bool) : Out Rw := ⟨[.c (.sc (.b r))], []⟩
def Q32 : Mean Rw := fun k a h Z K => match a, h with
  | [.w (.c (.sc (.i .i64 a0))), .w (.c (.sc (.i .i64 a1))), .w (.c (.sc (.i .i64 a2)))], [] => (spec_l1In.f a0 a1 a2).bind fun r => K (o32 r)
  | _, _ => none
def O32 : List (Cal Rw) := []
theorem O32_ok : ∀ c ∈ O32, Sound Try.prog c := by
  intro c hc
  simp only [O32, List.mem_cons, List.not_mem_nil, or_false] at hc
def K32 : List (Cut Rw) := []
theorem z32_ok : ∀ c ∈ K32, ∀ st, c.f 0 st = none := by
  intro c hc st
  simp only [K32, List.mem_cons, List.not_mem_nil, or_false] at hc
theorem h32_ok : ∀ c ∈ K32, ∀ k st out, c.f (k + 1) st = some out → seg Try.prog O32 K32 k (body Try.f32) (kEnd Try.prog Try.f32.results.toList) c.p st = some out := by
  intro c hc k st out h
  simp only [K32, List.mem_cons, List.not_mem_nil, or_false] at hc
theorem g32 (k : Nat) (a0 : Int) (a1 : Int) (a2 : Int) (r : Bool) (h : spec_l1In.f a0 a1 a2 = some r) : Good Try.prog 32 [.w (.c (.sc (.i .i64 a0))), .w (.c (.sc (.i .i64 a1))), .w (.c (.sc (.i .i64 a2)))] [] (o32 r) := by
  refine fn_ok (k := k) O32_ok mixed Try.func32 (root := body Try.f32) (by kernel_rfl) z32_ok h32_ok ?_
  refine Lo.of (b := (if a0 ≥ a1 then (some (o32 (decide (a0 ≤ a2)))) else (some (o32 false)))) (c := (spec_l1In.f a0 a1 a2).bind fun r => some (o32 r)) (by kernel_rfl) ?_ _ (by rw [h]; rfl)
  · unfold spec_l1In.f
    repeat' first
    | with_reducible exact none_L
    | with_reducible refine letB_L (fun _ _ => ?_)
    | with_reducible refine bind_L (fun _ => ?_)
    | with_reducible refine ite_L (fun _ => ?_) (fun _ => ?_)
    | with_reducible refine drop_L (by first | assumption | omega | (simp only [*, List.length_set]; done)) ?_
    | with_reducible refine let_L ?_
    | with_reducible refine some_L ?_
    | with_reducible refine letT_L ?_
    | with_reducible refine ite_I (by omega) (fun _ => ?_) (fun _ => ?_)
    | rfl
    | simp only [Bool.decide_eq_true]
    | exact Lo.refl _
    | (refine Lo.eq ?_; simp only [Bool.decide_eq_true]; done)
    | refine ite_L (fun _ => ?_) (fun _ => ?_)
theorem d32 : Sound Try.prog ⟨32, false, Q32⟩ := sound_of ⟨_, Try.func32, by kernel_rfl, by kernel_rfl⟩ fun k args hp Z K z h => by
  unfold Q32 at h
  split at h
  · obtain ⟨r, hr, hK⟩ := Option.bind_eq_some_iff.1 h
    exact ⟨_, hK, g32 k _ _ _ r hr⟩
  · cases h
def o30 (r : Bool) : Out Rw := ⟨[.c (.sc (.b r))], []⟩
def Q30 : Mean Rw := fun k a h Z K => match a, h with
  | [.w (.c (.sc (.i .i64 a0)))], [] => (spec_l3No.f a0).bind fun r => K (o30 r)
  | _, _ => none
def O30 : List (Cal Rw) := [⟨32, false, Q32⟩]
theorem O30_ok : ∀ c ∈ O30, Sound Try.prog c := by
  intro c hc
  simp only [O30, List.mem_cons, List.not_mem_nil, or_false] at hc
  rcases hc with rfl
  · exact d32
def K30 : List (Cut Rw) := []
theorem z30_ok : ∀ c ∈ K30, ∀ st, c.f 0 st = none := by
  intro c hc st
  simp only [K30, List.mem_cons, List.not_mem_nil, or_false] at hc
theorem h30_ok : ∀ c ∈ K30, ∀ k st out, c.f (k + 1) st = some out → seg Try.prog O30 K30 k (body Try.f30) (kEnd Try.prog Try.f30.results.toList) c.p st = some out := by
  intro c hc k st out h
  simp only [K30, List.mem_cons, List.not_mem_nil, or_false] at hc
theorem g30 (k : Nat) (a0 : Int) (r : Bool) (h : spec_l3No.f a0 = some r) : Good Try.prog 30 [.w (.c (.sc (.i .i64 a0)))] [] (o30 r) := by
  refine fn_ok (k := k) O30_ok mixed Try.func30 (root := body Try.f30) (by kernel_rfl) z30_ok h30_ok ?_
  refine Lo.of (b := ((spec_l1In.f a0 1 1000).bind fun r2 => (some (o30 r2)))) (c := (spec_l3No.f a0).bind fun r => some (o30 r)) (by kernel_rfl) ?_ _ (by rw [h]; rfl)
  · unfold spec_l3No.f
    repeat' first
    | with_reducible exact none_L
    | with_reducible refine letB_L (fun _ _ => ?_)
    | with_reducible refine bind_L (fun _ => ?_)
    | with_reducible refine ite_L (fun _ => ?_) (fun _ => ?_)
    | with_reducible refine drop_L (by first | assumption | omega | (simp only [*, List.length_set]; done)) ?_
    | with_reducible refine let_L ?_
    | with_reducible refine some_L ?_
    | with_reducible refine letT_L ?_
    | with_reducible refine ite_I (by omega) (fun _ => ?_) (fun _ => ?_)
    | rfl
    | simp only [Bool.decide_eq_true]
    | exact Lo.refl _
    | (refine Lo.eq ?_; simp only [Bool.decide_eq_true]; done)
    | refine ite_L (fun _ => ?_) (fun _ => ?_)
theorem d30 : Sound Try.prog ⟨30, false, Q30⟩ := sound_of ⟨_, Try.func30, by kernel_rfl, by kernel_rfl⟩ fun k args hp Z K z h => by
  unfold Q30 at h
  split at h
  · obtain ⟨r, hr, hK⟩ := Option.bind_eq_some_iff.1 h
    exact ⟨_, hK, g30 k _ r hr⟩
  · cases h
def o54 (l0 : List S88) (r : Bool) : Out Rw := ⟨[.c (.sc (.b r))], [.rows 0 (.e88 l0)]⟩
def Q54 : Mean Rw := fun k a h Z K => match a, h with
  | [.w (.c (.rw 0))], [.rows 0 (.e88 l0)] => (spec_AccountsOk.f k l0).bind fun r => K (o54 l0 r)
  | _, _ => none
def O54 : List (Cal Rw) := [⟨30, false, Q30⟩, ⟨32, false, Q32⟩]
theorem O54_ok : ∀ c ∈ O54, Sound Try.prog c := by
  intro c hc
  simp only [O54, List.mem_cons, List.not_mem_nil, or_false] at hc
  rcases hc with rfl | rfl
  · exact d30
  · exact d32
def C54_0 : Nat → St Rw → Option (Out Rw) := fun k st => match st with
  | ⟨47, 1, 1, [(0, .w (.c (.rw 0))), (3, .w (.c (.sc (.i .i64 x3))))], [(0, .rows 0 (.e88 l0))]⟩ => (spec_AccountsOk.l0 k l0 x3).bind fun r => some (o54 l0 r)
  | _ => none
def K54 : List (Cut Rw) := [⟨[false, true, false, true, true], [0, 3], C54_0⟩]
theorem e54_0 (k : Nat) (x3 : Int) (l0 : List S88) : Lo (seg Try.prog O54 K54 k (body Try.f54) (kEnd Try.prog Try.f54.results.toList) [false, true, false, true, true] ⟨47, 1, 1, [(0, .w (.c (.rw 0))), (3, .w (.c (.sc (.i .i64 x3))))], [(0, .rows 0 (.e88 l0))]⟩) ((spec_AccountsOk.l0 (k + 1) l0 x3).bind fun r => some (o54 l0 r)) :=
  Lo.of (b := (if x3 < (l0.length : Int) then (if 0 ≤ x3 then (if x3 < (l0.length : Int) then ((spec_l3No.f (rd_T88 l0 x3).f0).bind fun r3 => (if r3 = true then (if 0 ≤ x3 then (if x3 < (l0.length : Int) then ((spec_l1In.f (rd_T88 l0 x3).f1 1 4).bind fun r4 => (if r4 = true then (if x3 > 0 then (if 0 ≤ RowKit.wrap64 (x3 - 1) then (if RowKit.wrap64 (x3 - 1) < (l0.length : Int) then (if 0 ≤ x3 then (if x3 < (l0.length : Int) then (if (rd_T88 l0 (RowKit.wrap64 (x3 - 1))).f0 ≥ (rd_T88 l0 x3).f0 then (some (o54 l0 false)) else ((spec_AccountsOk.l0 k l0 (RowKit.wrap64 (x3 + 1))).bind fun r => some (o54 l0 r))) else none) else none) else none) else none) else ((spec_AccountsOk.l0 k l0 (RowKit.wrap64 (x3 + 1))).bind fun r => some (o54 l0 r))) else (some (o54 l0 false)))) else none) else none) else (some (o54 l0 false)))) else none) else none) else (some (o54 l0 true)))) (by kernel_rfl) (by
    rw [spec_AccountsOk.l0]
    repeat' first
    | with_reducible exact none_L
    | with_reducible refine letB_L (fun _ _ => ?_)
    | with_reducible refine bind_L (fun _ => ?_)
    | with_reducible refine ite_L (fun _ => ?_) (fun _ => ?_)
    | with_reducible refine drop_L (by first | assumption | omega | (simp only [*, List.length_set]; done)) ?_
    | with_reducible refine let_L ?_
    | with_reducible refine some_L ?_
    | with_reducible refine letT_L ?_
    | with_reducible refine ite_I (by omega) (fun _ => ?_) (fun _ => ?_)
    | rfl
    | simp only [Bool.decide_eq_true]
    | exact Lo.refl _
    | (refine Lo.eq ?_; simp only [Bool.decide_eq_true]; done)
    | refine ite_L (fun _ => ?_) (fun _ => ?_))
theorem h54_0 (k : Nat) (st : St Rw) (out : Out Rw) (h : C54_0 (k + 1) st = some out) : seg Try.prog O54 K54 k (body Try.f54) (kEnd Try.prog Try.f54.results.toList) [false, true, false, true, true] st = some out := by
  unfold C54_0 at h
  split at h
  · exact e54_0 _ _ _ out h
  · cases h
theorem z54_ok : ∀ c ∈ K54, ∀ st, c.f 0 st = none := by
  intro c hc st
  simp only [K54, List.mem_cons, List.not_mem_nil, or_false] at hc
  rcases hc with rfl
  · show C54_0 0 st = none; unfold C54_0; split <;> rfl
theorem h54_ok : ∀ c ∈ K54, ∀ k st out, c.f (k + 1) st = some out → seg Try.prog O54 K54 k (body Try.f54) (kEnd Try.prog Try.f54.results.toList) c.p st = some out := by
  intro c hc k st out h
  simp only [K54, List.mem_cons, List.not_mem_nil, or_false] at hc
  rcases hc with rfl
  · exact h54_0 k st out h
theorem g54 (k : Nat) (l0 : List (S88)) (r : Bool) (h : spec_AccountsOk.f k l0 = some r) : Good Try.prog 54 [.w (.c (.rw 0))] [.rows 0 (.e88 l0)] (o54 l0 r) := by
  refine fn_ok (k := k) O54_ok mixed Try.func54 (root := body Try.f54) (by kernel_rfl) z54_ok h54_ok ?_
  refine Lo.of (b := (if (l0.length : Int) > 20 then (some (o54 l0 false)) else ((spec_AccountsOk.l0 k l0 0).bind fun r => some (o54 l0 r)))) (c := (spec_AccountsOk.f k l0).bind fun r => some (o54 l0 r)) (by kernel_rfl) ?_ _ (by rw [h]; rfl)
  · unfold spec_AccountsOk.f
    repeat' first
    | with_reducible exact none_L
    | with_reducible refine letB_L (fun _ _ => ?_)
    | with_reducible refine bind_L (fun _ => ?_)
    | with_reducible refine ite_L (fun _ => ?_) (fun _ => ?_)
    | with_reducible refine drop_L (by first | assumption | omega | (simp only [*, List.length_set]; done)) ?_
    | with_reducible refine let_L ?_
    | with_reducible refine some_L ?_
    | with_reducible refine letT_L ?_
    | with_reducible refine ite_I (by omega) (fun _ => ?_) (fun _ => ?_)
    | rfl
    | simp only [Bool.decide_eq_true]
    | exact Lo.refl _
    | (refine Lo.eq ?_; simp only [Bool.decide_eq_true]; done)
    | refine ite_L (fun _ => ?_) (fun _ => ?_)
theorem d54 : Sound Try.prog ⟨54, false, Q54⟩ := sound_of ⟨_, Try.func54, by kernel_rfl, by kernel_rfl⟩ fun k args hp Z K z h => by
  unfold Q54 at h
  split at h
  · obtain ⟨r, hr, hK⟩ := Option.bind_eq_some_iff.1 h
    exact ⟨_, hK, g54 k _ r hr⟩
  · cases h
def o55 (l0 : List S90) (r : Bool) : Out Rw := ⟨[.c (.sc (.b r))], [.rows 0 (.e90 l0)]⟩
def Q55 : Mean Rw := fun k a h Z K => match a, h with
  | [.w (.c (.rw 0))], [.rows 0 (.e90 l0)] => (spec_InstrsOk.f k l0).bind fun r => K (o55 l0 r)
  | _, _ => none
def O55 : List (Cal Rw) := [⟨30, false, Q30⟩, ⟨32, false, Q32⟩]
theorem O55_ok : ∀ c ∈ O55, Sound Try.prog c := by
  intro c hc
  simp only [O55, List.mem_cons, List.not_mem_nil, or_false] at hc
  rcases hc with rfl | rfl
  · exact d30
  · exact d32
def C55_0 : Nat → St Rw → Option (Out Rw) := fun k st => match st with
  | ⟨47, 1, 1, [(0, .w (.c (.rw 0))), (3, .w (.c (.sc (.i .i64 x3))))], [(0, .rows 0 (.e90 l0))]⟩ => (spec_InstrsOk.l0 k l0 x3).bind fun r => some (o55 l0 r)
  | _ => none
def K55 : List (Cut Rw) := [⟨[false, true, false, true, true], [0, 3], C55_0⟩]
theorem e55_0 (k : Nat) (x3 : Int) (l0 : List S90) : Lo (seg Try.prog O55 K55 k (body Try.f55) (kEnd Try.prog Try.f55.results.toList) [false, true, false, true, true] ⟨47, 1, 1, [(0, .w (.c (.rw 0))), (3, .w (.c (.sc (.i .i64 x3))))], [(0, .rows 0 (.e90 l0))]⟩) ((spec_InstrsOk.l0 (k + 1) l0 x3).bind fun r => some (o55 l0 r)) :=
  Lo.of (b := (if x3 < (l0.length : Int) then (if 0 ≤ x3 then (if x3 < (l0.length : Int) then ((spec_l3No.f (rd_T90 l0 x3).f0).bind fun r3 => (if r3 = true then (if 0 ≤ x3 then (if x3 < (l0.length : Int) then ((spec_l1In.f (rd_T90 l0 x3).f1 1 2).bind fun r4 => (if r4 = true then (if x3 > 0 then (if 0 ≤ RowKit.wrap64 (x3 - 1) then (if RowKit.wrap64 (x3 - 1) < (l0.length : Int) then (if 0 ≤ x3 then (if x3 < (l0.length : Int) then (if (rd_T90 l0 (RowKit.wrap64 (x3 - 1))).f0 ≥ (rd_T90 l0 x3).f0 then (some (o55 l0 false)) else ((spec_InstrsOk.l0 k l0 (RowKit.wrap64 (x3 + 1))).bind fun r => some (o55 l0 r))) else none) else none) else none) else none) else ((spec_InstrsOk.l0 k l0 (RowKit.wrap64 (x3 + 1))).bind fun r => some (o55 l0 r))) else (some (o55 l0 false)))) else none) else none) else (some (o55 l0 false)))) else none) else none) else (some (o55 l0 true)))) (by kernel_rfl) (by
    rw [spec_InstrsOk.l0]
    repeat' first
    | with_reducible exact none_L
    | with_reducible refine letB_L (fun _ _ => ?_)
    | with_reducible refine bind_L (fun _ => ?_)
    | with_reducible refine ite_L (fun _ => ?_) (fun _ => ?_)
    | with_reducible refine drop_L (by first | assumption | omega | (simp only [*, List.length_set]; done)) ?_
    | with_reducible refine let_L ?_
    | with_reducible refine some_L ?_
    | with_reducible refine letT_L ?_
    | with_reducible refine ite_I (by omega) (fun _ => ?_) (fun _ => ?_)
    | rfl
    | simp only [Bool.decide_eq_true]
    | exact Lo.refl _
    | (refine Lo.eq ?_; simp only [Bool.decide_eq_true]; done)
    | refine ite_L (fun _ => ?_) (fun _ => ?_))
theorem h55_0 (k : Nat) (st : St Rw) (out : Out Rw) (h : C55_0 (k + 1) st = some out) : seg Try.prog O55 K55 k (body Try.f55) (kEnd Try.prog Try.f55.results.toList) [false, true, false, true, true] st = some out := by
  unfold C55_0 at h
  split at h
  · exact e55_0 _ _ _ out h
  · cases h
theorem z55_ok : ∀ c ∈ K55, ∀ st, c.f 0 st = none := by
  intro c hc st
  simp only [K55, List.mem_cons, List.not_mem_nil, or_false] at hc
  rcases hc with rfl
  · show C55_0 0 st = none; unfold C55_0; split <;> rfl
theorem h55_ok : ∀ c ∈ K55, ∀ k st out, c.f (k + 1) st = some out → seg Try.prog O55 K55 k (body Try.f55) (kEnd Try.prog Try.f55.results.toList) c.p st = some out := by
  intro c hc k st out h
  simp only [K55, List.mem_cons, List.not_mem_nil, or_false] at hc
  rcases hc with rfl
  · exact h55_0 k st out h
theorem g55 (k : Nat) (l0 : List (S90)) (r : Bool) (h : spec_InstrsOk.f k l0 = some r) : Good Try.prog 55 [.w (.c (.rw 0))] [.rows 0 (.e90 l0)] (o55 l0 r) := by
  refine fn_ok (k := k) O55_ok mixed Try.func55 (root := body Try.f55) (by kernel_rfl) z55_ok h55_ok ?_
  refine Lo.of (b := (if (l0.length : Int) > 8 then (some (o55 l0 false)) else ((spec_InstrsOk.l0 k l0 0).bind fun r => some (o55 l0 r)))) (c := (spec_InstrsOk.f k l0).bind fun r => some (o55 l0 r)) (by kernel_rfl) ?_ _ (by rw [h]; rfl)
  · unfold spec_InstrsOk.f
    repeat' first
    | with_reducible exact none_L
    | with_reducible refine letB_L (fun _ _ => ?_)
    | with_reducible refine bind_L (fun _ => ?_)
    | with_reducible refine ite_L (fun _ => ?_) (fun _ => ?_)
    | with_reducible refine drop_L (by first | assumption | omega | (simp only [*, List.length_set]; done)) ?_
    | with_reducible refine let_L ?_
    | with_reducible refine some_L ?_
    | with_reducible refine letT_L ?_
    | with_reducible refine ite_I (by omega) (fun _ => ?_) (fun _ => ?_)
    | rfl
    | simp only [Bool.decide_eq_true]
    | exact Lo.refl _
    | (refine Lo.eq ?_; simp only [Bool.decide_eq_true]; done)
    | refine ite_L (fun _ => ?_) (fun _ => ?_)
theorem d55 : Sound Try.prog ⟨55, false, Q55⟩ := sound_of ⟨_, Try.func55, by kernel_rfl, by kernel_rfl⟩ fun k args hp Z K z h => by
  unfold Q55 at h
  split at h
  · obtain ⟨r, hr, hK⟩ := Option.bind_eq_some_iff.1 h
    exact ⟨_, hK, g55 k _ r hr⟩
  · cases h
def o79 (r : Bool) : Out Rw := ⟨[.c (.sc (.b r))], []⟩
def Q79 : Mean Rw := fun k a h Z K => match a, h with
  | [.w (.c (.sc (.i .i64 a0)))], [] => (spec_AmountOk.f a0).bind fun r => K (o79 r)
  | _, _ => none
def O79 : List (Cal Rw) := [⟨32, false, Q32⟩]
theorem O79_ok : ∀ c ∈ O79, Sound Try.prog c := by
  intro c hc
  simp only [O79, List.mem_cons, List.not_mem_nil, or_false] at hc
  rcases hc with rfl
  · exact d32
def K79 : List (Cut Rw) := []
theorem z79_ok : ∀ c ∈ K79, ∀ st, c.f 0 st = none := by
  intro c hc st
  simp only [K79, List.mem_cons, List.not_mem_nil, or_false] at hc
theorem h79_ok : ∀ c ∈ K79, ∀ k st out, c.f (k + 1) st = some out → seg Try.prog O79 K79 k (body Try.f79) (kEnd Try.prog Try.f79.results.toList) c.p st = some out := by
  intro c hc k st out h
  simp only [K79, List.mem_cons, List.not_mem_nil, or_false] at hc
theorem g79 (k : Nat) (a0 : Int) (r : Bool) (h : spec_AmountOk.f a0 = some r) : Good Try.prog 79 [.w (.c (.sc (.i .i64 a0)))] [] (o79 r) := by
  refine fn_ok (k := k) O79_ok mixed Try.func79 (root := body Try.f79) (by kernel_rfl) z79_ok h79_ok ?_
  refine Lo.of (b := ((spec_l1In.f a0 (-1000000000000000) 1000000000000000).bind fun r2 => (some (o79 r2)))) (c := (spec_AmountOk.f a0).bind fun r => some (o79 r)) (by kernel_rfl) ?_ _ (by rw [h]; rfl)
  · unfold spec_AmountOk.f
    repeat' first
    | with_reducible exact none_L
    | with_reducible refine letB_L (fun _ _ => ?_)
    | with_reducible refine bind_L (fun _ => ?_)
    | with_reducible refine ite_L (fun _ => ?_) (fun _ => ?_)
    | with_reducible refine drop_L (by first | assumption | omega | (simp only [*, List.length_set]; done)) ?_
    | with_reducible refine let_L ?_
    | with_reducible refine some_L ?_
    | with_reducible refine letT_L ?_
    | with_reducible refine ite_I (by omega) (fun _ => ?_) (fun _ => ?_)
    | rfl
    | simp only [Bool.decide_eq_true]
    | exact Lo.refl _
    | (refine Lo.eq ?_; simp only [Bool.decide_eq_true]; done)
    | refine ite_L (fun _ => ?_) (fun _ => ?_)
theorem d79 : Sound Try.prog ⟨79, false, Q79⟩ := sound_of ⟨_, Try.func79, by kernel_rfl, by kernel_rfl⟩ fun k args hp Z K z h => by
  unfold Q79 at h
  split at h
  · obtain ⟨r, hr, hK⟩ := Option.bind_eq_some_iff.1 h
    exact ⟨_, hK, g79 k _ r hr⟩
  · cases h
def o80 (r : Bool) : Out Rw := ⟨[.c (.sc (.b r))], []⟩
def Q80 : Mean Rw := fun k a h Z K => match a, h with
  | [.w (.c (.sc (.i .i64 a0))), .w (.c (.sc (.i .i64 a1))), .w (.c (.sc (.i .i64 a2))), .w (.c (.sc (.i .i64 a3)))], [] => (spec_l4Before.f a0 a1 a2 a3).bind fun r => K (o80 r)
  | _, _ => none
def O80 : List (Cal Rw) := []
theorem O80_ok : ∀ c ∈ O80, Sound Try.prog c := by
  intro c hc
  simp only [O80, List.mem_cons, List.not_mem_nil, or_false] at hc
def K80 : List (Cut Rw) := []
theorem z80_ok : ∀ c ∈ K80, ∀ st, c.f 0 st = none := by
  intro c hc st
  simp only [K80, List.mem_cons, List.not_mem_nil, or_false] at hc
theorem h80_ok : ∀ c ∈ K80, ∀ k st out, c.f (k + 1) st = some out → seg Try.prog O80 K80 k (body Try.f80) (kEnd Try.prog Try.f80.results.toList) c.p st = some out := by
  intro c hc k st out h
  simp only [K80, List.mem_cons, List.not_mem_nil, or_false] at hc
theorem g80 (k : Nat) (a0 : Int) (a1 : Int) (a2 : Int) (a3 : Int) (r : Bool) (h : spec_l4Before.f a0 a1 a2 a3 = some r) : Good Try.prog 80 [.w (.c (.sc (.i .i64 a0))), .w (.c (.sc (.i .i64 a1))), .w (.c (.sc (.i .i64 a2))), .w (.c (.sc (.i .i64 a3)))] [] (o80 r) := by
  refine fn_ok (k := k) O80_ok mixed Try.func80 (root := body Try.f80) (by kernel_rfl) z80_ok h80_ok ?_
  refine Lo.of (b := (if a0 < a2 then (some (o80 true)) else (if a0 = a2 then (some (o80 (decide (a1 < a3)))) else (some (o80 false))))) (c := (spec_l4Before.f a0 a1 a2 a3).bind fun r => some (o80 r)) (by kernel_rfl) ?_ _ (by rw [h]; rfl)
  · unfold spec_l4Before.f
    repeat' first
    | with_reducible exact none_L
    | with_reducible refine letB_L (fun _ _ => ?_)
    | with_reducible refine bind_L (fun _ => ?_)
    | with_reducible refine ite_L (fun _ => ?_) (fun _ => ?_)
    | with_reducible refine drop_L (by first | assumption | omega | (simp only [*, List.length_set]; done)) ?_
    | with_reducible refine let_L ?_
    | with_reducible refine some_L ?_
    | with_reducible refine letT_L ?_
    | with_reducible refine ite_I (by omega) (fun _ => ?_) (fun _ => ?_)
    | rfl
    | simp only [Bool.decide_eq_true]
    | exact Lo.refl _
    | (refine Lo.eq ?_; simp only [Bool.decide_eq_true]; done)
    | refine ite_L (fun _ => ?_) (fun _ => ?_)
theorem d80 : Sound Try.prog ⟨80, false, Q80⟩ := sound_of ⟨_, Try.func80, by kernel_rfl, by kernel_rfl⟩ fun k args hp Z K z h => by
  unfold Q80 at h
  split at h
  · obtain ⟨r, hr, hK⟩ := Option.bind_eq_some_iff.1 h
    exact ⟨_, hK, g80 k _ _ _ _ r hr⟩
  · cases h
end Go.Proofs.Ytmfgajbkcnlkcaa.AI
namespace Go.Proofs.Ytmfgajbkcnlkcaa.AI
open Go Go.RowKit Go.Proofs.YtmfgajbkcnlkcaaW.PrintWords Go.Proofs.Ytmfgajbkcnlkcaa.P
set_option linter.unusedVariables false
set_option linter.all false
set_option maxRecDepth 100000
def o56 (l0 : List S93) (r : Bool) : Out Rw := ⟨[.c (.sc (.b r))], [.rows 0 (.e93 l0)]⟩
def Q56 : Mean Rw := fun k a h Z K => match a, h with
  | [.w (.c (.rw 0))], [.rows 0 (.e93 l0)] => (spec_BalsOk.f k l0).bind fun r => K (o56 l0 r)
  | _, _ => none
def O56 : List (Cal Rw) := [⟨30, false, Q30⟩, ⟨79, false, Q79⟩, ⟨80, false, Q80⟩]
theorem O56_ok : ∀ c ∈ O56, Sound Try.prog c := by
  intro c hc
  simp only [O56, List.mem_cons, List.not_mem_nil, or_false] at hc
  rcases hc with rfl | rfl | rfl
  · exact d30
  · exact d79
  · exact d80
def C56_0 : Nat → St Rw → Option (Out Rw) := fun k st => match st with
  | ⟨63, 1, 1, [(0, .w (.c (.rw 0))), (3, .w (.c (.sc (.i .i64 x3))))], [(0, .rows 0 (.e93 l0))]⟩ => (spec_BalsOk.l0 k l0 x3).bind fun r => some (o56 l0 r)
  | _ => none
def K56 : List (Cut Rw) := [⟨[false, true, false, true, true], [0, 3], C56_0⟩]
theorem e56_0 (k : Nat) (x3 : Int) (l0 : List S93) : Lo (seg Try.prog O56 K56 k (body Try.f56) (kEnd Try.prog Try.f56.results.toList) [false, true, false, true, true] ⟨63, 1, 1, [(0, .w (.c (.rw 0))), (3, .w (.c (.sc (.i .i64 x3))))], [(0, .rows 0 (.e93 l0))]⟩) ((spec_BalsOk.l0 (k + 1) l0 x3).bind fun r => some (o56 l0 r)) :=
  Lo.of (b := (if x3 < (l0.length : Int) then (if 0 ≤ x3 then (if x3 < (l0.length : Int) then ((spec_l3No.f (rd_T93 l0 x3).f0).bind fun r3 => (if r3 = true then ((spec_l3No.f (rd_T93 l0 x3).f1).bind fun r4 => (if r4 = true then ((spec_AmountOk.f (rd_T93 l0 x3).f2).bind fun r5 => (if r5 = true then (if (rd_T93 l0 x3).f2 = 0 then (some (o56 l0 false)) else (if x3 > 0 then (if 0 ≤ RowKit.wrap64 (x3 - 1) then (if RowKit.wrap64 (x3 - 1) < (l0.length : Int) then (if 0 ≤ RowKit.wrap64 (x3 - 1) then (if RowKit.wrap64 (x3 - 1) < (l0.length : Int) then ((spec_l4Before.f (rd_T93 l0 (RowKit.wrap64 (x3 - 1))).f0 (rd_T93 l0 (RowKit.wrap64 (x3 - 1))).f1 (rd_T93 l0 x3).f0 (rd_T93 l0 x3).f1).bind fun r6 => (if r6 = true then ((spec_BalsOk.l0 k l0 (RowKit.wrap64 (x3 + 1))).bind fun r => some (o56 l0 r)) else (some (o56 l0 false)))) else none) else none) else none) else none) else ((spec_BalsOk.l0 k l0 (RowKit.wrap64 (x3 + 1))).bind fun r => some (o56 l0 r)))) else (some (o56 l0 false)))) else (some (o56 l0 false)))) else (some (o56 l0 false)))) else none) else none) else (some (o56 l0 true)))) (by kernel_rfl) (by
    rw [spec_BalsOk.l0]
    repeat' first
    | with_reducible exact none_L
    | with_reducible refine letB_L (fun _ _ => ?_)
    | with_reducible refine bind_L (fun _ => ?_)
    | with_reducible refine ite_L (fun _ => ?_) (fun _ => ?_)
    | with_reducible refine drop_L (by first | assumption | omega | (simp only [*, List.length_set]; done)) ?_
    | with_reducible refine let_L ?_
    | with_reducible refine some_L ?_
    | with_reducible refine letT_L ?_
    | with_reducible refine ite_I (by omega) (fun _ => ?_) (fun _ => ?_)
    | rfl
    | simp only [Bool.decide_eq_true]
    | exact Lo.refl _
    | (refine Lo.eq ?_; simp only [Bool.decide_eq_true]; done)
    | refine ite_L (fun _ => ?_) (fun _ => ?_))
theorem h56_0 (k : Nat) (st : St Rw) (out : Out Rw) (h : C56_0 (k + 1) st = some out) : seg Try.prog O56 K56 k (body Try.f56) (kEnd Try.prog Try.f56.results.toList) [false, true, false, true, true] st = some out := by
  unfold C56_0 at h
  split at h
  · exact e56_0 _ _ _ out h
  · cases h
theorem z56_ok : ∀ c ∈ K56, ∀ st, c.f 0 st = none := by
  intro c hc st
  simp only [K56, List.mem_cons, List.not_mem_nil, or_false] at hc
  rcases hc with rfl
  · show C56_0 0 st = none; unfold C56_0; split <;> rfl
theorem h56_ok : ∀ c ∈ K56, ∀ k st out, c.f (k + 1) st = some out → seg Try.prog O56 K56 k (body Try.f56) (kEnd Try.prog Try.f56.results.toList) c.p st = some out := by
  intro c hc k st out h
  simp only [K56, List.mem_cons, List.not_mem_nil, or_false] at hc
  rcases hc with rfl
  · exact h56_0 k st out h
theorem g56 (k : Nat) (l0 : List (S93)) (r : Bool) (h : spec_BalsOk.f k l0 = some r) : Good Try.prog 56 [.w (.c (.rw 0))] [.rows 0 (.e93 l0)] (o56 l0 r) := by
  refine fn_ok (k := k) O56_ok mixed Try.func56 (root := body Try.f56) (by kernel_rfl) z56_ok h56_ok ?_
  refine Lo.of (b := (if (l0.length : Int) > 160 then (some (o56 l0 false)) else ((spec_BalsOk.l0 k l0 0).bind fun r => some (o56 l0 r)))) (c := (spec_BalsOk.f k l0).bind fun r => some (o56 l0 r)) (by kernel_rfl) ?_ _ (by rw [h]; rfl)
  · unfold spec_BalsOk.f
    repeat' first
    | with_reducible exact none_L
    | with_reducible refine letB_L (fun _ _ => ?_)
    | with_reducible refine bind_L (fun _ => ?_)
    | with_reducible refine ite_L (fun _ => ?_) (fun _ => ?_)
    | with_reducible refine drop_L (by first | assumption | omega | (simp only [*, List.length_set]; done)) ?_
    | with_reducible refine let_L ?_
    | with_reducible refine some_L ?_
    | with_reducible refine letT_L ?_
    | with_reducible refine ite_I (by omega) (fun _ => ?_) (fun _ => ?_)
    | rfl
    | simp only [Bool.decide_eq_true]
    | exact Lo.refl _
    | (refine Lo.eq ?_; simp only [Bool.decide_eq_true]; done)
    | refine ite_L (fun _ => ?_) (fun _ => ?_)
theorem d56 : Sound Try.prog ⟨56, false, Q56⟩ := sound_of ⟨_, Try.func56, by kernel_rfl, by kernel_rfl⟩ fun k args hp Z K z h => by
  unfold Q56 at h
  split at h
  · obtain ⟨r, hr, hK⟩ := Option.bind_eq_some_iff.1 h
    exact ⟨_, hK, g56 k _ r hr⟩
  · cases h
def o31 (r : Bool) : Out Rw := ⟨[.c (.sc (.b r))], []⟩
def Q31 : Mean Rw := fun k a h Z K => match a, h with
  | [.w (.c (.sc (.i .i64 a0))), .w (.c (.sc (.i .i64 a1)))], [] => (spec_l1Some.f a0 a1).bind fun r => K (o31 r)
  | _, _ => none
def O31 : List (Cal Rw) := [⟨32, false, Q32⟩]
theorem O31_ok : ∀ c ∈ O31, Sound Try.prog c := by
  intro c hc
  simp only [O31, List.mem_cons, List.not_mem_nil, or_false] at hc
  rcases hc with rfl
  · exact d32
def K31 : List (Cut Rw) := []
theorem z31_ok : ∀ c ∈ K31, ∀ st, c.f 0 st = none := by
  intro c hc st
  simp only [K31, List.mem_cons, List.not_mem_nil, or_false] at hc
theorem h31_ok : ∀ c ∈ K31, ∀ k st out, c.f (k + 1) st = some out → seg Try.prog O31 K31 k (body Try.f31) (kEnd Try.prog Try.f31.results.toList) c.p st = some out := by
  intro c hc k st out h
  simp only [K31, List.mem_cons, List.not_mem_nil, or_false] at hc
theorem g31 (k : Nat) (a0 : Int) (a1 : Int) (r : Bool) (h : spec_l1Some.f a0 a1 = some r) : Good Try.prog 31 [.w (.c (.sc (.i .i64 a0))), .w (.c (.sc (.i .i64 a1)))] [] (o31 r) := by
  refine fn_ok (k := k) O31_ok mixed Try.func31 (root := body Try.f31) (by kernel_rfl) z31_ok h31_ok ?_
  refine Lo.of (b := ((spec_l1In.f a0 a1 1000000000000000).bind fun r3 => (some (o31 r3)))) (c := (spec_l1Some.f a0 a1).bind fun r => some (o31 r)) (by kernel_rfl) ?_ _ (by rw [h]; rfl)
  · unfold spec_l1Some.f
    repeat' first
    | with_reducible exact none_L
    | with_reducible refine letB_L (fun _ _ => ?_)
    | with_reducible refine bind_L (fun _ => ?_)
    | with_reducible refine ite_L (fun _ => ?_) (fun _ => ?_)
    | with_reducible refine drop_L (by first | assumption | omega | (simp only [*, List.length_set]; done)) ?_
    | with_reducible refine let_L ?_
    | with_reducible refine some_L ?_
    | with_reducible refine letT_L ?_
    | with_reducible refine ite_I (by omega) (fun _ => ?_) (fun _ => ?_)
    | rfl
    | simp only [Bool.decide_eq_true]
    | exact Lo.refl _
    | (refine Lo.eq ?_; simp only [Bool.decide_eq_true]; done)
    | refine ite_L (fun _ => ?_) (fun _ => ?_)
theorem d31 : Sound Try.prog ⟨31, false, Q31⟩ := sound_of ⟨_, Try.func31, by kernel_rfl, by kernel_rfl⟩ fun k args hp Z K z h => by
  unfold Q31 at h
  split at h
  · obtain ⟨r, hr, hK⟩ := Option.bind_eq_some_iff.1 h
    exact ⟨_, hK, g31 k _ _ r hr⟩
  · cases h
def o81 (r : Bool) : Out Rw := ⟨[.c (.sc (.b r))], []⟩
def Q81 : Mean Rw := fun k a h Z K => match a, h with
  | [.w (.ag [.sc (.i .i64 a0_0), .sc (.i .i64 a0_1), .sc (.i .i64 a0_2), .sc (.i .i64 a0_3), .sc (.i .i64 a0_4)])], [] => (spec_l5Right.f a0_0 a0_1 a0_2 a0_3 a0_4).bind fun r => K (o81 r)
  | _, _ => none
def O81 : List (Cal Rw) := [⟨30, false, Q30⟩, ⟨32, false, Q32⟩, ⟨31, false, Q31⟩]
theorem O81_ok : ∀ c ∈ O81, Sound Try.prog c := by
  intro c hc
  simp only [O81, List.mem_cons, List.not_mem_nil, or_false] at hc
  rcases hc with rfl | rfl | rfl
  · exact d30
  · exact d32
  · exact d31
def K81 : List (Cut Rw) := []
theorem z81_ok : ∀ c ∈ K81, ∀ st, c.f 0 st = none := by
  intro c hc st
  simp only [K81, List.mem_cons, List.not_mem_nil, or_false] at hc
theorem h81_ok : ∀ c ∈ K81, ∀ k st out, c.f (k + 1) st = some out → seg Try.prog O81 K81 k (body Try.f81) (kEnd Try.prog Try.f81.results.toList) c.p st = some out := by
  intro c hc k st out h
  simp only [K81, List.mem_cons, List.not_mem_nil, or_false] at hc
theorem g81 (k : Nat) (a0_0 : Int) (a0_1 : Int) (a0_2 : Int) (a0_3 : Int) (a0_4 : Int) (r : Bool) (h : spec_l5Right.f a0_0 a0_1 a0_2 a0_3 a0_4 = some r) : Good Try.prog 81 [.w (.ag [.sc (.i .i64 a0_0), .sc (.i .i64 a0_1), .sc (.i .i64 a0_2), .sc (.i .i64 a0_3), .sc (.i .i64 a0_4)])] [] (o81 r) := by
  refine fn_ok (k := k) O81_ok mixed Try.func81 (root := body Try.f81) (by kernel_rfl) z81_ok h81_ok ?_
  refine Lo.of (b := ((spec_l3No.f a0_0).bind fun r6 => (if r6 = true then ((spec_l3No.f a0_1).bind fun r7 => (if r7 = true then ((spec_l1In.f a0_2 1 1000000000).bind fun r8 => (if r8 = true then ((spec_l1Some.f a0_3 1).bind fun r9 => (if r9 = true then ((spec_l1Some.f a0_4 0).bind fun r10 => (some (o81 r10))) else (some (o81 false)))) else (some (o81 false)))) else (some (o81 false)))) else (some (o81 false))))) (c := (spec_l5Right.f a0_0 a0_1 a0_2 a0_3 a0_4).bind fun r => some (o81 r)) (by kernel_rfl) ?_ _ (by rw [h]; rfl)
  · unfold spec_l5Right.f
    repeat' first
    | with_reducible exact none_L
    | with_reducible refine letB_L (fun _ _ => ?_)
    | with_reducible refine bind_L (fun _ => ?_)
    | with_reducible refine ite_L (fun _ => ?_) (fun _ => ?_)
    | with_reducible refine drop_L (by first | assumption | omega | (simp only [*, List.length_set]; done)) ?_
    | with_reducible refine let_L ?_
    | with_reducible refine some_L ?_
    | with_reducible refine letT_L ?_
    | with_reducible refine ite_I (by omega) (fun _ => ?_) (fun _ => ?_)
    | rfl
    | simp only [Bool.decide_eq_true]
    | exact Lo.refl _
    | (refine Lo.eq ?_; simp only [Bool.decide_eq_true]; done)
    | refine ite_L (fun _ => ?_) (fun _ => ?_)
theorem d81 : Sound Try.prog ⟨81, false, Q81⟩ := sound_of ⟨_, Try.func81, by kernel_rfl, by kernel_rfl⟩ fun k args hp Z K z h => by
  unfold Q81 at h
  split at h
  · obtain ⟨r, hr, hK⟩ := Option.bind_eq_some_iff.1 h
    exact ⟨_, hK, g81 k _ _ _ _ _ r hr⟩
  · cases h
def o82 (r : Bool) : Out Rw := ⟨[.c (.sc (.b r))], []⟩
def Q82 : Mean Rw := fun k a h Z K => match a, h with
  | [.w (.ag [.sc (.i .i64 a0_0), .sc (.i .i64 a0_1), .sc (.i .i64 a0_2), .sc (.i .i64 a0_3), .sc (.i .i64 a0_4)]), .w (.ag [.sc (.i .i64 a1_0), .sc (.i .i64 a1_1), .sc (.i .i64 a1_2), .sc (.i .i64 a1_3), .sc (.i .i64 a1_4)])], [] => (spec_l5Before.f a0_0 a0_1 a0_2 a0_3 a0_4 a1_0 a1_1 a1_2 a1_3 a1_4).bind fun r => K (o82 r)
  | _, _ => none
def O82 : List (Cal Rw) := [⟨80, false, Q80⟩]
theorem O82_ok : ∀ c ∈ O82, Sound Try.prog c := by
  intro c hc
  simp only [O82, List.mem_cons, List.not_mem_nil, or_false] at hc
  rcases hc with rfl
  · exact d80
def K82 : List (Cut Rw) := []
theorem z82_ok : ∀ c ∈ K82, ∀ st, c.f 0 st = none := by
  intro c hc st
  simp only [K82, List.mem_cons, List.not_mem_nil, or_false] at hc
theorem h82_ok : ∀ c ∈ K82, ∀ k st out, c.f (k + 1) st = some out → seg Try.prog O82 K82 k (body Try.f82) (kEnd Try.prog Try.f82.results.toList) c.p st = some out := by
  intro c hc k st out h
  simp only [K82, List.mem_cons, List.not_mem_nil, or_false] at hc
theorem g82 (k : Nat) (a0_0 : Int) (a0_1 : Int) (a0_2 : Int) (a0_3 : Int) (a0_4 : Int) (a1_0 : Int) (a1_1 : Int) (a1_2 : Int) (a1_3 : Int) (a1_4 : Int) (r : Bool) (h : spec_l5Before.f a0_0 a0_1 a0_2 a0_3 a0_4 a1_0 a1_1 a1_2 a1_3 a1_4 = some r) : Good Try.prog 82 [.w (.ag [.sc (.i .i64 a0_0), .sc (.i .i64 a0_1), .sc (.i .i64 a0_2), .sc (.i .i64 a0_3), .sc (.i .i64 a0_4)]), .w (.ag [.sc (.i .i64 a1_0), .sc (.i .i64 a1_1), .sc (.i .i64 a1_2), .sc (.i .i64 a1_3), .sc (.i .i64 a1_4)])] [] (o82 r) := by
  refine fn_ok (k := k) O82_ok mixed Try.func82 (root := body Try.f82) (by kernel_rfl) z82_ok h82_ok ?_
  refine Lo.of (b := ((spec_l4Before.f a0_0 a0_1 a1_0 a1_1).bind fun r11 => (if r11 = true then (some (o82 true)) else (if a0_0 = a1_0 then (if a0_1 = a1_1 then (some (o82 (decide (a0_2 < a1_2)))) else (some (o82 false))) else (some (o82 false)))))) (c := (spec_l5Before.f a0_0 a0_1 a0_2 a0_3 a0_4 a1_0 a1_1 a1_2 a1_3 a1_4).bind fun r => some (o82 r)) (by kernel_rfl) ?_ _ (by rw [h]; rfl)
  · unfold spec_l5Before.f
    repeat' first
    | with_reducible exact none_L
    | with_reducible refine letB_L (fun _ _ => ?_)
    | with_reducible refine bind_L (fun _ => ?_)
    | with_reducible refine ite_L (fun _ => ?_) (fun _ => ?_)
    | with_reducible refine drop_L (by first | assumption | omega | (simp only [*, List.length_set]; done)) ?_
    | with_reducible refine let_L ?_
    | with_reducible refine some_L ?_
    | with_reducible refine letT_L ?_
    | with_reducible refine ite_I (by omega) (fun _ => ?_) (fun _ => ?_)
    | rfl
    | simp only [Bool.decide_eq_true]
    | exact Lo.refl _
    | (refine Lo.eq ?_; simp only [Bool.decide_eq_true]; done)
    | refine ite_L (fun _ => ?_) (fun _ => ?_)
theorem d82 : Sound Try.prog ⟨82, false, Q82⟩ := sound_of ⟨_, Try.func82, by kernel_rfl, by kernel_rfl⟩ fun k args hp Z K z h => by
  unfold Q82 at h
  split at h
  · obtain ⟨r, hr, hK⟩ := Option.bind_eq_some_iff.1 h
    exact ⟨_, hK, g82 k _ _ _ _ _ _ _ _ _ _ r hr⟩
  · cases h
def o57 (l0 : List S96) (r : Bool) : Out Rw := ⟨[.c (.sc (.b r))], [.rows 0 (.e96 l0)]⟩
def Q57 : Mean Rw := fun k a h Z K => match a, h with
  | [.w (.c (.rw 0))], [.rows 0 (.e96 l0)] => (spec_LotsOk.f k l0).bind fun r => K (o57 l0 r)
  | _, _ => none
def O57 : List (Cal Rw) := [⟨81, false, Q81⟩, ⟨82, false, Q82⟩, ⟨79, false, Q79⟩]
theorem O57_ok : ∀ c ∈ O57, Sound Try.prog c := by
  intro c hc
  simp only [O57, List.mem_cons, List.not_mem_nil, or_false] at hc
  rcases hc with rfl | rfl | rfl
  · exact d81
  · exact d82
  · exact d79
def C57_0 : Nat → St Rw → Option (Out Rw) := fun k st => match st with
  | ⟨77, 1, 1, [(0, .w (.c (.rw 0))), (3, .w (.c (.sc (.i .i64 x3)))), (4, .w (.c (.sc (.i .i64 x4)))), (5, .w (.c (.sc (.i .i64 x5))))], [(0, .rows 0 (.e96 l0))]⟩ => (spec_LotsOk.l0 k l0 x3 x4 x5).bind fun r => some (o57 l0 r)
  | _ => none
def C57_1 : Nat → St Rw → Option (Out Rw) := fun k st => match st with
  | ⟨77, 1, 2, [(0, .w (.c (.rw 0))), (3, .w (.c (.sc (.i .i64 x3)))), (4, .w (.c (.sc (.i .i64 x4)))), (5, .w (.c (.sc (.i .i64 x5)))), (6, .pt 1 0), (36, .w (.c (.sc (.b x36))))], [(0, .rows 0 (.e96 l0)), (1, .box 96 [.sc (.i .i64 b1_0), .sc (.i .i64 b1_1), .sc (.i .i64 b1_2), .sc (.i .i64 b1_3), .sc (.i .i64 b1_4)])]⟩ => (spec_LotsOk.j1 k l0 x3 x4 x5 x36 b1_0 b1_1 b1_2 b1_3 b1_4).bind fun r => some (o57 l0 r)
  | _ => none
def C57_2 : Nat → St Rw → Option (Out Rw) := fun k st => match st with
  | ⟨77, 1, 2, [(0, .w (.c (.rw 0))), (3, .w (.c (.sc (.i .i64 x3)))), (4, .w (.c (.sc (.i .i64 x4)))), (5, .w (.c (.sc (.i .i64 x5)))), (6, .pt 1 0), (60, .w (.c (.sc (.b x60))))], [(0, .rows 0 (.e96 l0)), (1, .box 96 [.sc (.i .i64 b1_0), .sc (.i .i64 b1_1), .sc (.i .i64 b1_2), .sc (.i .i64 b1_3), .sc (.i .i64 b1_4)])]⟩ => (spec_LotsOk.j2 k l0 x3 x4 x5 x60 b1_0 b1_1 b1_2 b1_3 b1_4).bind fun r => some (o57 l0 r)
  | _ => none
def C57_3 : Nat → St Rw → Option (Out Rw) := fun k st => match st with
  | ⟨77, 1, 2, [(0, .w (.c (.rw 0))), (3, .w (.c (.sc (.i .i64 x3)))), (4, .w (.c (.sc (.i .i64 x4)))), (5, .w (.c (.sc (.i .i64 x5)))), (6, .pt 1 0)], [(0, .rows 0 (.e96 l0)), (1, .box 96 [.sc (.i .i64 b1_0), .sc (.i .i64 b1_1), .sc (.i .i64 b1_2), .sc (.i .i64 b1_3), .sc (.i .i64 b1_4)])]⟩ => (spec_LotsOk.j3 k l0 x3 x4 x5 b1_0 b1_1 b1_2 b1_3 b1_4).bind fun r => some (o57 l0 r)
  | _ => none
def K57 : List (Cut Rw) := [⟨[false, true, false, true, true, true], [0, 3, 4, 5], C57_0⟩, ⟨[true, false, true, false, false, true, false, false, true, false, true, true, true], [0, 3, 4, 5, 6, 36], C57_1⟩, ⟨[true, false, true, true, false, false, true, false, false, true, false, true, true, true], [0, 3, 4, 5, 6, 60], C57_2⟩, ⟨[true, true, true, false, false, true, false, false, true, false, true, true, true], [0, 3, 4, 5, 6], C57_3⟩]
theorem e57_0 (k : Nat) (x3 : Int) (x4 : Int) (x5 : Int) (l0 : List S96) : Lo (seg Try.prog O57 K57 k (body Try.f57) (kEnd Try.prog Try.f57.results.toList) [false, true, false, true, true, true] ⟨77, 1, 1, [(0, .w (.c (.rw 0))), (3, .w (.c (.sc (.i .i64 x3)))), (4, .w (.c (.sc (.i .i64 x4)))), (5, .w (.c (.sc (.i .i64 x5))))], [(0, .rows 0 (.e96 l0))]⟩) ((spec_LotsOk.l0 (k + 1) l0 x3 x4 x5).bind fun r => some (o57 l0 r)) :=
  Lo.of (b := (if x5 < (l0.length : Int) then (if 0 ≤ x5 then (if x5 < (l0.length : Int) then ((spec_l5Right.f (rd_T96 l0 x5).f0 (rd_T96 l0 x5).f1 (rd_T96 l0 x5).f2 (rd_T96 l0 x5).f3 (rd_T96 l0 x5).f4).bind fun r5 => (if r5 = true then (if x5 > 0 then (if 0 ≤ RowKit.wrap64 (x5 - 1) then (if RowKit.wrap64 (x5 - 1) < (l0.length : Int) then ((spec_l5Before.f (rd_T96 l0 (RowKit.wrap64 (x5 - 1))).f0 (rd_T96 l0 (RowKit.wrap64 (x5 - 1))).f1 (rd_T96 l0 (RowKit.wrap64 (x5 - 1))).f2 (rd_T96 l0 (RowKit.wrap64 (x5 - 1))).f3 (rd_T96 l0 (RowKit.wrap64 (x5 - 1))).f4 (rd_T96 l0 x5).f0 (rd_T96 l0 x5).f1 (rd_T96 l0 x5).f2 (rd_T96 l0 x5).f3 (rd_T96 l0 x5).f4).bind fun r6 => ((spec_LotsOk.j1 k l0 x3 x4 x5 (!decide (r6 = true)) ((rd_T96 l0 x5).f0) ((rd_T96 l0 x5).f1) ((rd_T96 l0 x5).f2) ((rd_T96 l0 x5).f3) ((rd_T96 l0 x5).f4)).bind fun r => some (o57 l0 r))) else none) else none) else ((spec_LotsOk.j1 k l0 x3 x4 x5 false ((rd_T96 l0 x5).f0) ((rd_T96 l0 x5).f1) ((rd_T96 l0 x5).f2) ((rd_T96 l0 x5).f3) ((rd_T96 l0 x5).f4)).bind fun r => some (o57 l0 r))) else ((spec_LotsOk.j1 k l0 x3 x4 x5 true ((rd_T96 l0 x5).f0) ((rd_T96 l0 x5).f1) ((rd_T96 l0 x5).f2) ((rd_T96 l0 x5).f3) ((rd_T96 l0 x5).f4)).bind fun r => some (o57 l0 r)))) else none) else none) else (some (o57 l0 true)))) (by kernel_rfl) (by
    rw [spec_LotsOk.l0]
    repeat' first
    | with_reducible exact none_L
    | with_reducible refine letB_L (fun _ _ => ?_)
    | with_reducible refine bind_L (fun _ => ?_)
    | with_reducible refine ite_L (fun _ => ?_) (fun _ => ?_)
    | with_reducible refine drop_L (by first | assumption | omega | (simp only [*, List.length_set]; done)) ?_
    | with_reducible refine let_L ?_
    | with_reducible refine some_L ?_
    | with_reducible refine letT_L ?_
    | with_reducible refine ite_I (by omega) (fun _ => ?_) (fun _ => ?_)
    | rfl
    | simp only [Bool.decide_eq_true]
    | exact Lo.refl _
    | (refine Lo.eq ?_; simp only [Bool.decide_eq_true]; done)
    | refine ite_L (fun _ => ?_) (fun _ => ?_))
theorem h57_0 (k : Nat) (st : St Rw) (out : Out Rw) (h : C57_0 (k + 1) st = some out) : seg Try.prog O57 K57 k (body Try.f57) (kEnd Try.prog Try.f57.results.toList) [false, true, false, true, true, true] st = some out := by
  unfold C57_0 at h
  split at h
  · exact e57_0 _ _ _ _ _ out h
  · cases h
theorem e57_1 (k : Nat) (x3 : Int) (x4 : Int) (x5 : Int) (x36 : Bool) (l0 : List S96) (b1_0 : Int) (b1_1 : Int) (b1_2 : Int) (b1_3 : Int) (b1_4 : Int) : Lo (seg Try.prog O57 K57 k (body Try.f57) (kEnd Try.prog Try.f57.results.toList) [true, false, true, false, false, true, false, false, true, false, true, true, true] ⟨77, 1, 2, [(0, .w (.c (.rw 0))), (3, .w (.c (.sc (.i .i64 x3)))), (4, .w (.c (.sc (.i .i64 x4)))), (5, .w (.c (.sc (.i .i64 x5)))), (6, .pt 1 0), (36, .w (.c (.sc (.b x36))))], [(0, .rows 0 (.e96 l0)), (1, .box 96 [.sc (.i .i64 b1_0), .sc (.i .i64 b1_1), .sc (.i .i64 b1_2), .sc (.i .i64 b1_3), .sc (.i .i64 b1_4)])]⟩) ((spec_LotsOk.j1 (k + 1) l0 x3 x4 x5 x36 b1_0 b1_1 b1_2 b1_3 b1_4).bind fun r => some (o57 l0 r)) :=
  Lo.of (b := (if x36 = true then (some (o57 l0 false)) else (if x5 = 0 then ((spec_LotsOk.j2 k l0 x3 x4 x5 true b1_0 b1_1 b1_2 b1_3 b1_4).bind fun r => some (o57 l0 r)) else (if 0 ≤ RowKit.wrap64 (x5 - 1) then (if RowKit.wrap64 (x5 - 1) < (l0.length : Int) then (if b1_0 = (rd_T96 l0 (RowKit.wrap64 (x5 - 1))).f0 then (if 0 ≤ RowKit.wrap64 (x5 - 1) then (if RowKit.wrap64 (x5 - 1) < (l0.length : Int) then ((spec_LotsOk.j2 k l0 x3 x4 x5 (!decide (b1_1 = (rd_T96 l0 (RowKit.wrap64 (x5 - 1))).f1)) b1_0 b1_1 b1_2 b1_3 b1_4).bind fun r => some (o57 l0 r)) else none) else none) else ((spec_LotsOk.j2 k l0 x3 x4 x5 true b1_0 b1_1 b1_2 b1_3 b1_4).bind fun r => some (o57 l0 r))) else none) else none)))) (by kernel_rfl) (by
    rw [spec_LotsOk.j1]
    repeat' first
    | with_reducible exact none_L
    | with_reducible refine letB_L (fun _ _ => ?_)
    | with_reducible refine bind_L (fun _ => ?_)
    | with_reducible refine ite_L (fun _ => ?_) (fun _ => ?_)
    | with_reducible refine drop_L (by first | assumption | omega | (simp only [*, List.length_set]; done)) ?_
    | with_reducible refine let_L ?_
    | with_reducible refine some_L ?_
    | with_reducible refine letT_L ?_
    | with_reducible refine ite_I (by omega) (fun _ => ?_) (fun _ => ?_)
    | rfl
    | simp only [Bool.decide_eq_true]
    | exact Lo.refl _
    | (refine Lo.eq ?_; simp only [Bool.decide_eq_true]; done)
    | refine ite_L (fun _ => ?_) (fun _ => ?_))
theorem h57_1 (k : Nat) (st : St Rw) (out : Out Rw) (h : C57_1 (k + 1) st = some out) : seg Try.prog O57 K57 k (body Try.f57) (kEnd Try.prog Try.f57.results.toList) [true, false, true, false, false, true, false, false, true, false, true, true, true] st = some out := by
  unfold C57_1 at h
  split at h
  · exact e57_1 _ _ _ _ _ _ _ _ _ _ _ out h
  · cases h
theorem e57_2 (k : Nat) (x3 : Int) (x4 : Int) (x5 : Int) (x60 : Bool) (l0 : List S96) (b1_0 : Int) (b1_1 : Int) (b1_2 : Int) (b1_3 : Int) (b1_4 : Int) : Lo (seg Try.prog O57 K57 k (body Try.f57) (kEnd Try.prog Try.f57.results.toList) [true, false, true, true, false, false, true, false, false, true, false, true, true, true] ⟨77, 1, 2, [(0, .w (.c (.rw 0))), (3, .w (.c (.sc (.i .i64 x3)))), (4, .w (.c (.sc (.i .i64 x4)))), (5, .w (.c (.sc (.i .i64 x5)))), (6, .pt 1 0), (60, .w (.c (.sc (.b x60))))], [(0, .rows 0 (.e96 l0)), (1, .box 96 [.sc (.i .i64 b1_0), .sc (.i .i64 b1_1), .sc (.i .i64 b1_2), .sc (.i .i64 b1_3), .sc (.i .i64 b1_4)])]⟩) ((spec_LotsOk.j2 (k + 1) l0 x3 x4 x5 x60 b1_0 b1_1 b1_2 b1_3 b1_4).bind fun r => some (o57 l0 r)) :=
  Lo.of (b := (if x60 = true then ((spec_LotsOk.j3 k l0 0 0 x5 b1_0 b1_1 b1_2 b1_3 b1_4).bind fun r => some (o57 l0 r)) else ((spec_LotsOk.j3 k l0 x3 x4 x5 b1_0 b1_1 b1_2 b1_3 b1_4).bind fun r => some (o57 l0 r)))) (by kernel_rfl) (by
    rw [spec_LotsOk.j2]
    repeat' first
    | with_reducible exact none_L
    | with_reducible refine letB_L (fun _ _ => ?_)
    | with_reducible refine bind_L (fun _ => ?_)
    | with_reducible refine ite_L (fun _ => ?_) (fun _ => ?_)
    | with_reducible refine drop_L (by first | assumption | omega | (simp only [*, List.length_set]; done)) ?_
    | with_reducible refine let_L ?_
    | with_reducible refine some_L ?_
    | with_reducible refine letT_L ?_
    | with_reducible refine ite_I (by omega) (fun _ => ?_) (fun _ => ?_)
    | rfl
    | simp only [Bool.decide_eq_true]
    | exact Lo.refl _
    | (refine Lo.eq ?_; simp only [Bool.decide_eq_true]; done)
    | refine ite_L (fun _ => ?_) (fun _ => ?_))
theorem h57_2 (k : Nat) (st : St Rw) (out : Out Rw) (h : C57_2 (k + 1) st = some out) : seg Try.prog O57 K57 k (body Try.f57) (kEnd Try.prog Try.f57.results.toList) [true, false, true, true, false, false, true, false, false, true, false, true, true, true] st = some out := by
  unfold C57_2 at h
  split at h
  · exact e57_2 _ _ _ _ _ _ _ _ _ _ _ out h
  · cases h
theorem e57_3 (k : Nat) (x3 : Int) (x4 : Int) (x5 : Int) (l0 : List S96) (b1_0 : Int) (b1_1 : Int) (b1_2 : Int) (b1_3 : Int) (b1_4 : Int) : Lo (seg Try.prog O57 K57 k (body Try.f57) (kEnd Try.prog Try.f57.results.toList) [true, true, true, false, false, true, false, false, true, false, true, true, true] ⟨77, 1, 2, [(0, .w (.c (.rw 0))), (3, .w (.c (.sc (.i .i64 x3)))), (4, .w (.c (.sc (.i .i64 x4)))), (5, .w (.c (.sc (.i .i64 x5)))), (6, .pt 1 0)], [(0, .rows 0 (.e96 l0)), (1, .box 96 [.sc (.i .i64 b1_0), .sc (.i .i64 b1_1), .sc (.i .i64 b1_2), .sc (.i .i64 b1_3), .sc (.i .i64 b1_4)])]⟩) ((spec_LotsOk.j3 (k + 1) l0 x3 x4 x5 b1_0 b1_1 b1_2 b1_3 b1_4).bind fun r => some (o57 l0 r)) :=
  Lo.of (b := ((spec_AmountOk.f (RowKit.wrap64 (x3 + b1_3))).bind fun r10 => (if r10 = true then ((spec_AmountOk.f (RowKit.wrap64 (x4 + b1_4))).bind fun r11 => (if r11 = true then ((spec_LotsOk.l0 k l0 (RowKit.wrap64 (x3 + b1_3)) (RowKit.wrap64 (x4 + b1_4)) (RowKit.wrap64 (x5 + 1))).bind fun r => some (o57 l0 r)) else (some (o57 l0 false)))) else (some (o57 l0 false))))) (by kernel_rfl) (by
    rw [spec_LotsOk.j3]
    repeat' first
    | with_reducible exact none_L
    | with_reducible refine letB_L (fun _ _ => ?_)
    | with_reducible refine bind_L (fun _ => ?_)
    | with_reducible refine ite_L (fun _ => ?_) (fun _ => ?_)
    | with_reducible refine drop_L (by first | assumption | omega | (simp only [*, List.length_set]; done)) ?_
    | with_reducible refine let_L ?_
    | with_reducible refine some_L ?_
    | with_reducible refine letT_L ?_
    | with_reducible refine ite_I (by omega) (fun _ => ?_) (fun _ => ?_)
    | rfl
    | simp only [Bool.decide_eq_true]
    | exact Lo.refl _
    | (refine Lo.eq ?_; simp only [Bool.decide_eq_true]; done)
    | refine ite_L (fun _ => ?_) (fun _ => ?_))
theorem h57_3 (k : Nat) (st : St Rw) (out : Out Rw) (h : C57_3 (k + 1) st = some out) : seg Try.prog O57 K57 k (body Try.f57) (kEnd Try.prog Try.f57.results.toList) [true, true, true, false, false, true, false, false, true, false, true, true, true] st = some out := by
  unfold C57_3 at h
  split at h
  · exact e57_3 _ _ _ _ _ _ _ _ _ _ out h
  · cases h
theorem z57_ok : ∀ c ∈ K57, ∀ st, c.f 0 st = none := by
  intro c hc st
  simp only [K57, List.mem_cons, List.not_mem_nil, or_false] at hc
  rcases hc with rfl | rfl | rfl | rfl
  · show C57_0 0 st = none; unfold C57_0; split <;> rfl
  · show C57_1 0 st = none; unfold C57_1; split <;> rfl
  · show C57_2 0 st = none; unfold C57_2; split <;> rfl
  · show C57_3 0 st = none; unfold C57_3; split <;> rfl
theorem h57_ok : ∀ c ∈ K57, ∀ k st out, c.f (k + 1) st = some out → seg Try.prog O57 K57 k (body Try.f57) (kEnd Try.prog Try.f57.results.toList) c.p st = some out := by
  intro c hc k st out h
  simp only [K57, List.mem_cons, List.not_mem_nil, or_false] at hc
  rcases hc with rfl | rfl | rfl | rfl
  · exact h57_0 k st out h
  · exact h57_1 k st out h
  · exact h57_2 k st out h
  · exact h57_3 k st out h
theorem g57 (k : Nat) (l0 : List (S96)) (r : Bool) (h : spec_LotsOk.f k l0 = some r) : Good Try.prog 57 [.w (.c (.rw 0))] [.rows 0 (.e96 l0)] (o57 l0 r) := by
  refine fn_ok (k := k) O57_ok mixed Try.func57 (root := body Try.f57) (by kernel_rfl) z57_ok h57_ok ?_
  refine Lo.of (b := (if (l0.length : Int) > 120 then (some (o57 l0 false)) else ((spec_LotsOk.l0 k l0 0 0 0).bind fun r => some (o57 l0 r)))) (c := (spec_LotsOk.f k l0).bind fun r => some (o57 l0 r)) (by kernel_rfl) ?_ _ (by rw [h]; rfl)
  · unfold spec_LotsOk.f
    repeat' first
    | with_reducible exact none_L
    | with_reducible refine letB_L (fun _ _ => ?_)
    | with_reducible refine bind_L (fun _ => ?_)
    | with_reducible refine ite_L (fun _ => ?_) (fun _ => ?_)
    | with_reducible refine drop_L (by first | assumption | omega | (simp only [*, List.length_set]; done)) ?_
    | with_reducible refine let_L ?_
    | with_reducible refine some_L ?_
    | with_reducible refine letT_L ?_
    | with_reducible refine ite_I (by omega) (fun _ => ?_) (fun _ => ?_)
    | rfl
    | simp only [Bool.decide_eq_true]
    | exact Lo.refl _
    | (refine Lo.eq ?_; simp only [Bool.decide_eq_true]; done)
    | refine ite_L (fun _ => ?_) (fun _ => ?_)
theorem d57 : Sound Try.prog ⟨57, false, Q57⟩ := sound_of ⟨_, Try.func57, by kernel_rfl, by kernel_rfl⟩ fun k args hp Z K z h => by
  unfold Q57 at h
  split at h
  · obtain ⟨r, hr, hK⟩ := Option.bind_eq_some_iff.1 h
    exact ⟨_, hK, g57 k _ r hr⟩
  · cases h
def o9 (l0 : List S50) (r : Bool) : Out Rw := ⟨[.c (.sc (.b r))], [.rows 0 (.e50 l0)]⟩
def Q9 : Mean Rw := fun k a h Z K => match a, h with
  | [.w (.c (.rw 0))], [.rows 0 (.e50 l0)] => (spec_TradesOk.f k l0).bind fun r => K (o9 l0 r)
  | _, _ => none
def O9 : List (Cal Rw) := [⟨30, false, Q30⟩, ⟨31, false, Q31⟩, ⟨32, false, Q32⟩]
theorem O9_ok : ∀ c ∈ O9, Sound Try.prog c := by
  intro c hc
  simp only [O9, List.mem_cons, List.not_mem_nil, or_false] at hc
  rcases hc with rfl | rfl | rfl
  · exact d30
  · exact d31
  · exact d32
def C9_0 : Nat → St Rw → Option (Out Rw) := fun k st => match st with
  | ⟨86, 1, 1, [(0, .w (.c (.rw 0))), (3, .w (.c (.sc (.i .i64 x3))))], [(0, .rows 0 (.e50 l0))]⟩ => (spec_TradesOk.l0 k l0 x3).bind fun r => some (o9 l0 r)
  | _ => none
def K9 : List (Cut Rw) := [⟨[false, true, false, true, true], [0, 3], C9_0⟩]
theorem e9_0 (k : Nat) (x3 : Int) (l0 : List S50) : Lo (seg Try.prog O9 K9 k (body Try.f9) (kEnd Try.prog Try.f9.results.toList) [false, true, false, true, true] ⟨86, 1, 1, [(0, .w (.c (.rw 0))), (3, .w (.c (.sc (.i .i64 x3))))], [(0, .rows 0 (.e50 l0))]⟩) ((spec_TradesOk.l0 (k + 1) l0 x3).bind fun r => some (o9 l0 r)) :=
  Lo.of (b := (if x3 < (l0.length : Int) then (if 0 ≤ x3 then (if x3 < (l0.length : Int) then ((spec_l3No.f (rd_T50 l0 x3).f0).bind fun r3 => (if r3 = true then ((spec_l3No.f (rd_T50 l0 x3).f1).bind fun r4 => (if r4 = true then ((spec_l3No.f (rd_T50 l0 x3).f2).bind fun r5 => (if r5 = true then ((spec_l3No.f (rd_T50 l0 x3).f3).bind fun r6 => (if r6 = true then ((spec_l3No.f (rd_T50 l0 x3).f5).bind fun r7 => (if r7 = true then (if (rd_T50 l0 x3).f1 = (rd_T50 l0 x3).f2 then (some (o9 l0 false)) else ((spec_l1Some.f (rd_T50 l0 x3).f4 1).bind fun r8 => (if r8 = true then ((spec_l1Some.f (rd_T50 l0 x3).f6 0).bind fun r9 => (if r9 = true then ((spec_l1In.f (rd_T50 l0 x3).f7 1 3).bind fun r10 => (if r10 = true then (if x3 > 0 then (if 0 ≤ RowKit.wrap64 (x3 - 1) then (if RowKit.wrap64 (x3 - 1) < (l0.length : Int) then (if (rd_T50 l0 (RowKit.wrap64 (x3 - 1))).f0 ≥ (rd_T50 l0 x3).f0 then (some (o9 l0 false)) else ((spec_TradesOk.l0 k l0 (RowKit.wrap64 (x3 + 1))).bind fun r => some (o9 l0 r))) else none) else none) else ((spec_TradesOk.l0 k l0 (RowKit.wrap64 (x3 + 1))).bind fun r => some (o9 l0 r))) else (some (o9 l0 false)))) else (some (o9 l0 false)))) else (some (o9 l0 false))))) else (some (o9 l0 false)))) else (some (o9 l0 false)))) else (some (o9 l0 false)))) else (some (o9 l0 false)))) else (some (o9 l0 false)))) else none) else none) else (some (o9 l0 true)))) (by kernel_rfl) (by
    rw [spec_TradesOk.l0]
    repeat' first
    | with_reducible exact none_L
    | with_reducible refine letB_L (fun _ _ => ?_)
    | with_reducible refine bind_L (fun _ => ?_)
    | with_reducible refine ite_L (fun _ => ?_) (fun _ => ?_)
    | with_reducible refine drop_L (by first | assumption | omega | (simp only [*, List.length_set]; done)) ?_
    | with_reducible refine let_L ?_
    | with_reducible refine some_L ?_
    | with_reducible refine letT_L ?_
    | with_reducible refine ite_I (by omega) (fun _ => ?_) (fun _ => ?_)
    | rfl
    | simp only [Bool.decide_eq_true]
    | exact Lo.refl _
    | (refine Lo.eq ?_; simp only [Bool.decide_eq_true]; done)
    | refine ite_L (fun _ => ?_) (fun _ => ?_))
theorem h9_0 (k : Nat) (st : St Rw) (out : Out Rw) (h : C9_0 (k + 1) st = some out) : seg Try.prog O9 K9 k (body Try.f9) (kEnd Try.prog Try.f9.results.toList) [false, true, false, true, true] st = some out := by
  unfold C9_0 at h
  split at h
  · exact e9_0 _ _ _ out h
  · cases h
theorem z9_ok : ∀ c ∈ K9, ∀ st, c.f 0 st = none := by
  intro c hc st
  simp only [K9, List.mem_cons, List.not_mem_nil, or_false] at hc
  rcases hc with rfl
  · show C9_0 0 st = none; unfold C9_0; split <;> rfl
theorem h9_ok : ∀ c ∈ K9, ∀ k st out, c.f (k + 1) st = some out → seg Try.prog O9 K9 k (body Try.f9) (kEnd Try.prog Try.f9.results.toList) c.p st = some out := by
  intro c hc k st out h
  simp only [K9, List.mem_cons, List.not_mem_nil, or_false] at hc
  rcases hc with rfl
  · exact h9_0 k st out h
theorem g9 (k : Nat) (l0 : List (S50)) (r : Bool) (h : spec_TradesOk.f k l0 = some r) : Good Try.prog 9 [.w (.c (.rw 0))] [.rows 0 (.e50 l0)] (o9 l0 r) := by
  refine fn_ok (k := k) O9_ok mixed Try.func9 (root := body Try.f9) (by kernel_rfl) z9_ok h9_ok ?_
  refine Lo.of (b := (if (l0.length : Int) > 30 then (some (o9 l0 false)) else ((spec_TradesOk.l0 k l0 0).bind fun r => some (o9 l0 r)))) (c := (spec_TradesOk.f k l0).bind fun r => some (o9 l0 r)) (by kernel_rfl) ?_ _ (by rw [h]; rfl)
  · unfold spec_TradesOk.f
    repeat' first
    | with_reducible exact none_L
    | with_reducible refine letB_L (fun _ _ => ?_)
    | with_reducible refine bind_L (fun _ => ?_)
    | with_reducible refine ite_L (fun _ => ?_) (fun _ => ?_)
    | with_reducible refine drop_L (by first | assumption | omega | (simp only [*, List.length_set]; done)) ?_
    | with_reducible refine let_L ?_
    | with_reducible refine some_L ?_
    | with_reducible refine letT_L ?_
    | with_reducible refine ite_I (by omega) (fun _ => ?_) (fun _ => ?_)
    | rfl
    | simp only [Bool.decide_eq_true]
    | exact Lo.refl _
    | (refine Lo.eq ?_; simp only [Bool.decide_eq_true]; done)
    | refine ite_L (fun _ => ?_) (fun _ => ?_)
theorem d9 : Sound Try.prog ⟨9, false, Q9⟩ := sound_of ⟨_, Try.func9, by kernel_rfl, by kernel_rfl⟩ fun k args hp Z K z h => by
  unfold Q9 at h
  split at h
  · obtain ⟨r, hr, hK⟩ := Option.bind_eq_some_iff.1 h
    exact ⟨_, hK, g9 k _ r hr⟩
  · cases h
end Go.Proofs.Ytmfgajbkcnlkcaa.AI
namespace Go.Proofs.Ytmfgajbkcnlkcaa.AI
open Go Go.RowKit Go.Proofs.YtmfgajbkcnlkcaaW.PrintWords Go.Proofs.Ytmfgajbkcnlkcaa.P
set_option linter.unusedVariables false
set_option linter.all false
set_option maxRecDepth 100000
def o60 (l0 : List S88) (r : Int) : Out Rw := ⟨[.c (.sc (.i .i64 r))], [.rows 0 (.e88 l0)]⟩
def Q60 : Mean Rw := fun k a h Z K => match a, h with
  | [.w (.c (.rw 0)), .w (.c (.sc (.i .i64 a1)))], [.rows 0 (.e88 l0)] => (spec_AccountKind.f k l0 a1).bind fun r => K (o60 l0 r)
  | _, _ => none
def O60 : List (Cal Rw) := [⟨54, false, Q54⟩]
theorem O60_ok : ∀ c ∈ O60, Sound Try.prog c := by
  intro c hc
  simp only [O60, List.mem_cons, List.not_mem_nil, or_false] at hc
  rcases hc with rfl
  · exact d54
def C60_0 : Nat → St Rw → Option (Out Rw) := fun k st => match st with
  | ⟨28, 1, 1, [(0, .w (.c (.rw 0))), (1, .w (.c (.sc (.i .i64 x1)))), (5, .w (.c (.sc (.i .i64 x5))))], [(0, .rows 0 (.e88 l0))]⟩ => (spec_AccountKind.l0 k l0 x1 x5).bind fun r => some (o60 l0 r)
  | _ => none
def C60_1 : Nat → St Rw → Option (Out Rw) := fun k st => match st with
  | ⟨28, 1, 1, [(0, .w (.c (.rw 0))), (1, .w (.c (.sc (.i .i64 x1)))), (5, .w (.c (.sc (.i .i64 x5)))), (13, .w (.c (.sc (.b x13))))], [(0, .rows 0 (.e88 l0))]⟩ => (spec_AccountKind.j1 k l0 x1 x5 x13).bind fun r => some (o60 l0 r)
  | _ => none
def K60 : List (Cut Rw) := [⟨[false, true, false, true], [0, 1, 5], C60_0⟩, ⟨[true, false, false, false, true, false, true], [0, 1, 5, 13], C60_1⟩]
theorem e60_0 (k : Nat) (x1 : Int) (x5 : Int) (l0 : List S88) : Lo (seg Try.prog O60 K60 k (body Try.f60) (kEnd Try.prog Try.f60.results.toList) [false, true, false, true] ⟨28, 1, 1, [(0, .w (.c (.rw 0))), (1, .w (.c (.sc (.i .i64 x1)))), (5, .w (.c (.sc (.i .i64 x5))))], [(0, .rows 0 (.e88 l0))]⟩) ((spec_AccountKind.l0 (k + 1) l0 x1 x5).bind fun r => some (o60 l0 r)) :=
  Lo.of (b := (if x5 < (l0.length : Int) then ((spec_AccountsOk.f k l0).bind fun r4 => ((spec_AccountKind.j1 k l0 x1 x5 r4).bind fun r => some (o60 l0 r))) else ((spec_AccountKind.j1 k l0 x1 x5 false).bind fun r => some (o60 l0 r)))) (by kernel_rfl) (by
    rw [spec_AccountKind.l0]
    repeat' first
    | with_reducible exact none_L
    | with_reducible refine letB_L (fun _ _ => ?_)
    | with_reducible refine bind_L (fun _ => ?_)
    | with_reducible refine ite_L (fun _ => ?_) (fun _ => ?_)
    | with_reducible refine drop_L (by first | assumption | omega | (simp only [*, List.length_set]; done)) ?_
    | with_reducible refine let_L ?_
    | with_reducible refine some_L ?_
    | with_reducible refine letT_L ?_
    | with_reducible refine ite_I (by omega) (fun _ => ?_) (fun _ => ?_)
    | rfl
    | simp only [Bool.decide_eq_true]
    | exact Lo.refl _
    | (refine Lo.eq ?_; simp only [Bool.decide_eq_true]; done)
    | refine ite_L (fun _ => ?_) (fun _ => ?_))
theorem h60_0 (k : Nat) (st : St Rw) (out : Out Rw) (h : C60_0 (k + 1) st = some out) : seg Try.prog O60 K60 k (body Try.f60) (kEnd Try.prog Try.f60.results.toList) [false, true, false, true] st = some out := by
  unfold C60_0 at h
  split at h
  · exact e60_0 _ _ _ _ out h
  · cases h
theorem e60_1 (k : Nat) (x1 : Int) (x5 : Int) (x13 : Bool) (l0 : List S88) : Lo (seg Try.prog O60 K60 k (body Try.f60) (kEnd Try.prog Try.f60.results.toList) [true, false, false, false, true, false, true] ⟨28, 1, 1, [(0, .w (.c (.rw 0))), (1, .w (.c (.sc (.i .i64 x1)))), (5, .w (.c (.sc (.i .i64 x5)))), (13, .w (.c (.sc (.b x13))))], [(0, .rows 0 (.e88 l0))]⟩) ((spec_AccountKind.j1 (k + 1) l0 x1 x5 x13).bind fun r => some (o60 l0 r)) :=
  Lo.of (b := (if x13 = true then (if 0 ≤ x5 then (if x5 < (l0.length : Int) then (if (rd_T88 l0 x5).f0 = x1 then (if 0 ≤ x5 then (if x5 < (l0.length : Int) then (some (o60 l0 ((rd_T88 l0 x5).f1))) else none) else none) else ((spec_AccountKind.l0 k l0 x1 (RowKit.wrap64 (x5 + 1))).bind fun r => some (o60 l0 r))) else none) else none) else (some (o60 l0 0)))) (by kernel_rfl) (by
    rw [spec_AccountKind.j1]
    repeat' first
    | with_reducible exact none_L
    | with_reducible refine letB_L (fun _ _ => ?_)
    | with_reducible refine bind_L (fun _ => ?_)
    | with_reducible refine ite_L (fun _ => ?_) (fun _ => ?_)
    | with_reducible refine drop_L (by first | assumption | omega | (simp only [*, List.length_set]; done)) ?_
    | with_reducible refine let_L ?_
    | with_reducible refine some_L ?_
    | with_reducible refine letT_L ?_
    | with_reducible refine ite_I (by omega) (fun _ => ?_) (fun _ => ?_)
    | rfl
    | simp only [Bool.decide_eq_true]
    | exact Lo.refl _
    | (refine Lo.eq ?_; simp only [Bool.decide_eq_true]; done)
    | refine ite_L (fun _ => ?_) (fun _ => ?_))
theorem h60_1 (k : Nat) (st : St Rw) (out : Out Rw) (h : C60_1 (k + 1) st = some out) : seg Try.prog O60 K60 k (body Try.f60) (kEnd Try.prog Try.f60.results.toList) [true, false, false, false, true, false, true] st = some out := by
  unfold C60_1 at h
  split at h
  · exact e60_1 _ _ _ _ _ out h
  · cases h
theorem z60_ok : ∀ c ∈ K60, ∀ st, c.f 0 st = none := by
  intro c hc st
  simp only [K60, List.mem_cons, List.not_mem_nil, or_false] at hc
  rcases hc with rfl | rfl
  · show C60_0 0 st = none; unfold C60_0; split <;> rfl
  · show C60_1 0 st = none; unfold C60_1; split <;> rfl
theorem h60_ok : ∀ c ∈ K60, ∀ k st out, c.f (k + 1) st = some out → seg Try.prog O60 K60 k (body Try.f60) (kEnd Try.prog Try.f60.results.toList) c.p st = some out := by
  intro c hc k st out h
  simp only [K60, List.mem_cons, List.not_mem_nil, or_false] at hc
  rcases hc with rfl | rfl
  · exact h60_0 k st out h
  · exact h60_1 k st out h
theorem g60 (k : Nat) (l0 : List (S88)) (a1 : Int) (r : Int) (h : spec_AccountKind.f k l0 a1 = some r) : Good Try.prog 60 [.w (.c (.rw 0)), .w (.c (.sc (.i .i64 a1)))] [.rows 0 (.e88 l0)] (o60 l0 r) := by
  refine fn_ok (k := k) O60_ok mixed Try.func60 (root := body Try.f60) (by kernel_rfl) z60_ok h60_ok ?_
  refine Lo.of (b := ((spec_AccountKind.l0 k l0 a1 0).bind fun r => some (o60 l0 r))) (c := (spec_AccountKind.f k l0 a1).bind fun r => some (o60 l0 r)) (by kernel_rfl) ?_ _ (by rw [h]; rfl)
  · unfold spec_AccountKind.f
    repeat' first
    | with_reducible exact none_L
    | with_reducible refine letB_L (fun _ _ => ?_)
    | with_reducible refine bind_L (fun _ => ?_)
    | with_reducible refine ite_L (fun _ => ?_) (fun _ => ?_)
    | with_reducible refine drop_L (by first | assumption | omega | (simp only [*, List.length_set]; done)) ?_
    | with_reducible refine let_L ?_
    | with_reducible refine some_L ?_
    | with_reducible refine letT_L ?_
    | with_reducible refine ite_I (by omega) (fun _ => ?_) (fun _ => ?_)
    | rfl
    | simp only [Bool.decide_eq_true]
    | exact Lo.refl _
    | (refine Lo.eq ?_; simp only [Bool.decide_eq_true]; done)
    | refine ite_L (fun _ => ?_) (fun _ => ?_)
theorem d60 : Sound Try.prog ⟨60, false, Q60⟩ := sound_of ⟨_, Try.func60, by kernel_rfl, by kernel_rfl⟩ fun k args hp Z K z h => by
  unfold Q60 at h
  split at h
  · obtain ⟨r, hr, hK⟩ := Option.bind_eq_some_iff.1 h
    exact ⟨_, hK, g60 k _ _ r hr⟩
  · cases h
def o61 (l0 : List S90) (r : Int) : Out Rw := ⟨[.c (.sc (.i .i64 r))], [.rows 0 (.e90 l0)]⟩
def Q61 : Mean Rw := fun k a h Z K => match a, h with
  | [.w (.c (.rw 0)), .w (.c (.sc (.i .i64 a1)))], [.rows 0 (.e90 l0)] => (spec_InstrKind.f k l0 a1).bind fun r => K (o61 l0 r)
  | _, _ => none
def O61 : List (Cal Rw) := [⟨55, false, Q55⟩]
theorem O61_ok : ∀ c ∈ O61, Sound Try.prog c := by
  intro c hc
  simp only [O61, List.mem_cons, List.not_mem_nil, or_false] at hc
  rcases hc with rfl
  · exact d55
def C61_0 : Nat → St Rw → Option (Out Rw) := fun k st => match st with
  | ⟨28, 1, 1, [(0, .w (.c (.rw 0))), (1, .w (.c (.sc (.i .i64 x1)))), (5, .w (.c (.sc (.i .i64 x5))))], [(0, .rows 0 (.e90 l0))]⟩ => (spec_InstrKind.l0 k l0 x1 x5).bind fun r => some (o61 l0 r)
  | _ => none
def C61_1 : Nat → St Rw → Option (Out Rw) := fun k st => match st with
  | ⟨28, 1, 1, [(0, .w (.c (.rw 0))), (1, .w (.c (.sc (.i .i64 x1)))), (5, .w (.c (.sc (.i .i64 x5)))), (13, .w (.c (.sc (.b x13))))], [(0, .rows 0 (.e90 l0))]⟩ => (spec_InstrKind.j1 k l0 x1 x5 x13).bind fun r => some (o61 l0 r)
  | _ => none
def K61 : List (Cut Rw) := [⟨[false, true, false, true], [0, 1, 5], C61_0⟩, ⟨[true, false, false, false, true, false, true], [0, 1, 5, 13], C61_1⟩]
theorem e61_0 (k : Nat) (x1 : Int) (x5 : Int) (l0 : List S90) : Lo (seg Try.prog O61 K61 k (body Try.f61) (kEnd Try.prog Try.f61.results.toList) [false, true, false, true] ⟨28, 1, 1, [(0, .w (.c (.rw 0))), (1, .w (.c (.sc (.i .i64 x1)))), (5, .w (.c (.sc (.i .i64 x5))))], [(0, .rows 0 (.e90 l0))]⟩) ((spec_InstrKind.l0 (k + 1) l0 x1 x5).bind fun r => some (o61 l0 r)) :=
  Lo.of (b := (if x5 < (l0.length : Int) then ((spec_InstrsOk.f k l0).bind fun r4 => ((spec_InstrKind.j1 k l0 x1 x5 r4).bind fun r => some (o61 l0 r))) else ((spec_InstrKind.j1 k l0 x1 x5 false).bind fun r => some (o61 l0 r)))) (by kernel_rfl) (by
    rw [spec_InstrKind.l0]
    repeat' first
    | with_reducible exact none_L
    | with_reducible refine letB_L (fun _ _ => ?_)
    | with_reducible refine bind_L (fun _ => ?_)
    | with_reducible refine ite_L (fun _ => ?_) (fun _ => ?_)
    | with_reducible refine drop_L (by first | assumption | omega | (simp only [*, List.length_set]; done)) ?_
    | with_reducible refine let_L ?_
    | with_reducible refine some_L ?_
    | with_reducible refine letT_L ?_
    | with_reducible refine ite_I (by omega) (fun _ => ?_) (fun _ => ?_)
    | rfl
    | simp only [Bool.decide_eq_true]
    | exact Lo.refl _
    | (refine Lo.eq ?_; simp only [Bool.decide_eq_true]; done)
    | refine ite_L (fun _ => ?_) (fun _ => ?_))
theorem h61_0 (k : Nat) (st : St Rw) (out : Out Rw) (h : C61_0 (k + 1) st = some out) : seg Try.prog O61 K61 k (body Try.f61) (kEnd Try.prog Try.f61.results.toList) [false, true, false, true] st = some out := by
  unfold C61_0 at h
  split at h
  · exact e61_0 _ _ _ _ out h
  · cases h
theorem e61_1 (k : Nat) (x1 : Int) (x5 : Int) (x13 : Bool) (l0 : List S90) : Lo (seg Try.prog O61 K61 k (body Try.f61) (kEnd Try.prog Try.f61.results.toList) [true, false, false, false, true, false, true] ⟨28, 1, 1, [(0, .w (.c (.rw 0))), (1, .w (.c (.sc (.i .i64 x1)))), (5, .w (.c (.sc (.i .i64 x5)))), (13, .w (.c (.sc (.b x13))))], [(0, .rows 0 (.e90 l0))]⟩) ((spec_InstrKind.j1 (k + 1) l0 x1 x5 x13).bind fun r => some (o61 l0 r)) :=
  Lo.of (b := (if x13 = true then (if 0 ≤ x5 then (if x5 < (l0.length : Int) then (if (rd_T90 l0 x5).f0 = x1 then (if 0 ≤ x5 then (if x5 < (l0.length : Int) then (some (o61 l0 ((rd_T90 l0 x5).f1))) else none) else none) else ((spec_InstrKind.l0 k l0 x1 (RowKit.wrap64 (x5 + 1))).bind fun r => some (o61 l0 r))) else none) else none) else (some (o61 l0 0)))) (by kernel_rfl) (by
    rw [spec_InstrKind.j1]
    repeat' first
    | with_reducible exact none_L
    | with_reducible refine letB_L (fun _ _ => ?_)
    | with_reducible refine bind_L (fun _ => ?_)
    | with_reducible refine ite_L (fun _ => ?_) (fun _ => ?_)
    | with_reducible refine drop_L (by first | assumption | omega | (simp only [*, List.length_set]; done)) ?_
    | with_reducible refine let_L ?_
    | with_reducible refine some_L ?_
    | with_reducible refine letT_L ?_
    | with_reducible refine ite_I (by omega) (fun _ => ?_) (fun _ => ?_)
    | rfl
    | simp only [Bool.decide_eq_true]
    | exact Lo.refl _
    | (refine Lo.eq ?_; simp only [Bool.decide_eq_true]; done)
    | refine ite_L (fun _ => ?_) (fun _ => ?_))
theorem h61_1 (k : Nat) (st : St Rw) (out : Out Rw) (h : C61_1 (k + 1) st = some out) : seg Try.prog O61 K61 k (body Try.f61) (kEnd Try.prog Try.f61.results.toList) [true, false, false, false, true, false, true] st = some out := by
  unfold C61_1 at h
  split at h
  · exact e61_1 _ _ _ _ _ out h
  · cases h
theorem z61_ok : ∀ c ∈ K61, ∀ st, c.f 0 st = none := by
  intro c hc st
  simp only [K61, List.mem_cons, List.not_mem_nil, or_false] at hc
  rcases hc with rfl | rfl
  · show C61_0 0 st = none; unfold C61_0; split <;> rfl
  · show C61_1 0 st = none; unfold C61_1; split <;> rfl
theorem h61_ok : ∀ c ∈ K61, ∀ k st out, c.f (k + 1) st = some out → seg Try.prog O61 K61 k (body Try.f61) (kEnd Try.prog Try.f61.results.toList) c.p st = some out := by
  intro c hc k st out h
  simp only [K61, List.mem_cons, List.not_mem_nil, or_false] at hc
  rcases hc with rfl | rfl
  · exact h61_0 k st out h
  · exact h61_1 k st out h
theorem g61 (k : Nat) (l0 : List (S90)) (a1 : Int) (r : Int) (h : spec_InstrKind.f k l0 a1 = some r) : Good Try.prog 61 [.w (.c (.rw 0)), .w (.c (.sc (.i .i64 a1)))] [.rows 0 (.e90 l0)] (o61 l0 r) := by
  refine fn_ok (k := k) O61_ok mixed Try.func61 (root := body Try.f61) (by kernel_rfl) z61_ok h61_ok ?_
  refine Lo.of (b := ((spec_InstrKind.l0 k l0 a1 0).bind fun r => some (o61 l0 r))) (c := (spec_InstrKind.f k l0 a1).bind fun r => some (o61 l0 r)) (by kernel_rfl) ?_ _ (by rw [h]; rfl)
  · unfold spec_InstrKind.f
    repeat' first
    | with_reducible exact none_L
    | with_reducible refine letB_L (fun _ _ => ?_)
    | with_reducible refine bind_L (fun _ => ?_)
    | with_reducible refine ite_L (fun _ => ?_) (fun _ => ?_)
    | with_reducible refine drop_L (by first | assumption | omega | (simp only [*, List.length_set]; done)) ?_
    | with_reducible refine let_L ?_
    | with_reducible refine some_L ?_
    | with_reducible refine letT_L ?_
    | with_reducible refine ite_I (by omega) (fun _ => ?_) (fun _ => ?_)
    | rfl
    | simp only [Bool.decide_eq_true]
    | exact Lo.refl _
    | (refine Lo.eq ?_; simp only [Bool.decide_eq_true]; done)
    | refine ite_L (fun _ => ?_) (fun _ => ?_)
theorem d61 : Sound Try.prog ⟨61, false, Q61⟩ := sound_of ⟨_, Try.func61, by kernel_rfl, by kernel_rfl⟩ fun k args hp Z K z h => by
  unfold Q61 at h
  split at h
  · obtain ⟨r, hr, hK⟩ := Option.bind_eq_some_iff.1 h
    exact ⟨_, hK, g61 k _ _ r hr⟩
  · cases h
def o107 (r : Int × Bool) : Out Rw := ⟨[.c (.sc (.i .i64 r.1)), .c (.sc (.b r.2))], []⟩
def Q107 : Mean Rw := fun k a h Z K => match a, h with
  | [.w (.c (.sc (.i .i64 a0))), .w (.c (.sc (.b a1)))], [] => (spec_l1Told.f a0 a1).bind fun r => K (o107 r)
  | _, _ => none
def O107 : List (Cal Rw) := [⟨79, false, Q79⟩]
theorem O107_ok : ∀ c ∈ O107, Sound Try.prog c := by
  intro c hc
  simp only [O107, List.mem_cons, List.not_mem_nil, or_false] at hc
  rcases hc with rfl
  · exact d79
def K107 : List (Cut Rw) := []
theorem z107_ok : ∀ c ∈ K107, ∀ st, c.f 0 st = none := by
  intro c hc st
  simp only [K107, List.mem_cons, List.not_mem_nil, or_false] at hc
theorem h107_ok : ∀ c ∈ K107, ∀ k st out, c.f (k + 1) st = some out → seg Try.prog O107 K107 k (body Try.f107) (kEnd Try.prog Try.f107.results.toList) c.p st = some out := by
  intro c hc k st out h
  simp only [K107, List.mem_cons, List.not_mem_nil, or_false] at hc
theorem g107 (k : Nat) (a0 : Int) (a1 : Bool) (r : Int × Bool) (h : spec_l1Told.f a0 a1 = some r) : Good Try.prog 107 [.w (.c (.sc (.i .i64 a0))), .w (.c (.sc (.b a1)))] [] (o107 r) := by
  refine fn_ok (k := k) O107_ok mixed Try.func107 (root := body Try.f107) (by kernel_rfl) z107_ok h107_ok ?_
  refine Lo.of (b := (if a1 = true then ((spec_AmountOk.f a0).bind fun r3 => (if r3 = true then (some (o107 (a0, true))) else (some (o107 (0, false))))) else (some (o107 (0, false))))) (c := (spec_l1Told.f a0 a1).bind fun r => some (o107 r)) (by kernel_rfl) ?_ _ (by rw [h]; rfl)
  · unfold spec_l1Told.f
    repeat' first
    | with_reducible exact none_L
    | with_reducible refine letB_L (fun _ _ => ?_)
    | with_reducible refine bind_L (fun _ => ?_)
    | with_reducible refine ite_L (fun _ => ?_) (fun _ => ?_)
    | with_reducible refine drop_L (by first | assumption | omega | (simp only [*, List.length_set]; done)) ?_
    | with_reducible refine let_L ?_
    | with_reducible refine some_L ?_
    | with_reducible refine letT_L ?_
    | with_reducible refine ite_I (by omega) (fun _ => ?_) (fun _ => ?_)
    | rfl
    | simp only [Bool.decide_eq_true]
    | exact Lo.refl _
    | (refine Lo.eq ?_; simp only [Bool.decide_eq_true]; done)
    | refine ite_L (fun _ => ?_) (fun _ => ?_)
theorem d107 : Sound Try.prog ⟨107, false, Q107⟩ := sound_of ⟨_, Try.func107, by kernel_rfl, by kernel_rfl⟩ fun k args hp Z K z h => by
  unfold Q107 at h
  split at h
  · obtain ⟨r, hr, hK⟩ := Option.bind_eq_some_iff.1 h
    exact ⟨_, hK, g107 k _ _ r hr⟩
  · cases h
def o83 (l0 : List S93) (r : Int × Bool) : Out Rw := ⟨[.c (.sc (.i .i64 r.1)), .c (.sc (.b r.2))], [.rows 0 (.e93 l0)]⟩
def Q83 : Mean Rw := fun k a h Z K => match a, h with
  | [.w (.c (.rw 0)), .w (.c (.sc (.i .i64 a1)))], [.rows 0 (.e93 l0)] => (spec_BalsSum.f k l0 a1).bind fun r => K (o83 l0 r)
  | _, _ => none
def O83 : List (Cal Rw) := [⟨56, false, Q56⟩, ⟨107, false, Q107⟩]
theorem O83_ok : ∀ c ∈ O83, Sound Try.prog c := by
  intro c hc
  simp only [O83, List.mem_cons, List.not_mem_nil, or_false] at hc
  rcases hc with rfl | rfl
  · exact d56
  · exact d107
def C83_0 : Nat → St Rw → Option (Out Rw) := fun k st => match st with
  | ⟨38, 1, 1, [(0, .w (.c (.rw 0))), (1, .w (.c (.sc (.i .i64 x1)))), (6, .w (.c (.sc (.i .i64 x6)))), (7, .w (.c (.sc (.i .i64 x7))))], [(0, .rows 0 (.e93 l0))]⟩ => (spec_BalsSum.l0 k l0 x1 x6 x7).bind fun r => some (o83 l0 r)
  | _ => none
def C83_1 : Nat → St Rw → Option (Out Rw) := fun k st => match st with
  | ⟨38, 1, 1, [(0, .w (.c (.rw 0))), (1, .w (.c (.sc (.i .i64 x1)))), (6, .w (.c (.sc (.i .i64 x6)))), (7, .w (.c (.sc (.i .i64 x7)))), (15, .w (.c (.sc (.b x15))))], [(0, .rows 0 (.e93 l0))]⟩ => (spec_BalsSum.j1 k l0 x1 x6 x7 x15).bind fun r => some (o83 l0 r)
  | _ => none
def K83 : List (Cut Rw) := [⟨[false, true, false, true, true], [0, 1, 6, 7], C83_0⟩, ⟨[true, false, false, false, true, false, true, true], [0, 1, 6, 7, 15], C83_1⟩]
theorem e83_0 (k : Nat) (x1 : Int) (x6 : Int) (x7 : Int) (l0 : List S93) : Lo (seg Try.prog O83 K83 k (body Try.f83) (kEnd Try.prog Try.f83.results.toList) [false, true, false, true, true] ⟨38, 1, 1, [(0, .w (.c (.rw 0))), (1, .w (.c (.sc (.i .i64 x1)))), (6, .w (.c (.sc (.i .i64 x6)))), (7, .w (.c (.sc (.i .i64 x7))))], [(0, .rows 0 (.e93 l0))]⟩) ((spec_BalsSum.l0 (k + 1) l0 x1 x6 x7).bind fun r => some (o83 l0 r)) :=
  Lo.of (b := (if x7 < (l0.length : Int) then ((spec_BalsOk.f k l0).bind fun r5 => ((spec_BalsSum.j1 k l0 x1 x6 x7 r5).bind fun r => some (o83 l0 r))) else ((spec_BalsSum.j1 k l0 x1 x6 x7 false).bind fun r => some (o83 l0 r)))) (by kernel_rfl) (by
    rw [spec_BalsSum.l0]
    repeat' first
    | with_reducible exact none_L
    | with_reducible refine letB_L (fun _ _ => ?_)
    | with_reducible refine bind_L (fun _ => ?_)
    | with_reducible refine ite_L (fun _ => ?_) (fun _ => ?_)
    | with_reducible refine drop_L (by first | assumption | omega | (simp only [*, List.length_set]; done)) ?_
    | with_reducible refine let_L ?_
    | with_reducible refine some_L ?_
    | with_reducible refine letT_L ?_
    | with_reducible refine ite_I (by omega) (fun _ => ?_) (fun _ => ?_)
    | rfl
    | simp only [Bool.decide_eq_true]
    | exact Lo.refl _
    | (refine Lo.eq ?_; simp only [Bool.decide_eq_true]; done)
    | refine ite_L (fun _ => ?_) (fun _ => ?_))
theorem h83_0 (k : Nat) (st : St Rw) (out : Out Rw) (h : C83_0 (k + 1) st = some out) : seg Try.prog O83 K83 k (body Try.f83) (kEnd Try.prog Try.f83.results.toList) [false, true, false, true, true] st = some out := by
  unfold C83_0 at h
  split at h
  · exact e83_0 _ _ _ _ _ out h
  · cases h
theorem e83_1 (k : Nat) (x1 : Int) (x6 : Int) (x7 : Int) (x15 : Bool) (l0 : List S93) : Lo (seg Try.prog O83 K83 k (body Try.f83) (kEnd Try.prog Try.f83.results.toList) [true, false, false, false, true, false, true, true] ⟨38, 1, 1, [(0, .w (.c (.rw 0))), (1, .w (.c (.sc (.i .i64 x1)))), (6, .w (.c (.sc (.i .i64 x6)))), (7, .w (.c (.sc (.i .i64 x7)))), (15, .w (.c (.sc (.b x15))))], [(0, .rows 0 (.e93 l0))]⟩) ((spec_BalsSum.j1 (k + 1) l0 x1 x6 x7 x15).bind fun r => some (o83 l0 r)) :=
  Lo.of (b := (if x15 = true then (if 0 ≤ x7 then (if x7 < (l0.length : Int) then (if (rd_T93 l0 x7).f1 = x1 then (if 0 ≤ x7 then (if x7 < (l0.length : Int) then ((spec_BalsSum.l0 k l0 x1 (RowKit.wrap64 (x6 + (rd_T93 l0 x7).f2)) (RowKit.wrap64 (x7 + 1))).bind fun r => some (o83 l0 r)) else none) else none) else ((spec_BalsSum.l0 k l0 x1 x6 (RowKit.wrap64 (x7 + 1))).bind fun r => some (o83 l0 r))) else none) else none) else ((spec_BalsOk.f k l0).bind fun r6 => ((spec_l1Told.f x6 r6).bind fun r7 => (some (o83 l0 (r7.1, r7.2))))))) (by kernel_rfl) (by
    rw [spec_BalsSum.j1]
    repeat' first
    | with_reducible exact none_L
    | with_reducible refine letB_L (fun _ _ => ?_)
    | with_reducible refine bind_L (fun _ => ?_)
    | with_reducible refine ite_L (fun _ => ?_) (fun _ => ?_)
    | with_reducible refine drop_L (by first | assumption | omega | (simp only [*, List.length_set]; done)) ?_
    | with_reducible refine let_L ?_
    | with_reducible refine some_L ?_
    | with_reducible refine letT_L ?_
    | with_reducible refine ite_I (by omega) (fun _ => ?_) (fun _ => ?_)
    | rfl
    | simp only [Bool.decide_eq_true]
    | exact Lo.refl _
    | (refine Lo.eq ?_; simp only [Bool.decide_eq_true]; done)
    | refine ite_L (fun _ => ?_) (fun _ => ?_))
theorem h83_1 (k : Nat) (st : St Rw) (out : Out Rw) (h : C83_1 (k + 1) st = some out) : seg Try.prog O83 K83 k (body Try.f83) (kEnd Try.prog Try.f83.results.toList) [true, false, false, false, true, false, true, true] st = some out := by
  unfold C83_1 at h
  split at h
  · exact e83_1 _ _ _ _ _ _ out h
  · cases h
theorem z83_ok : ∀ c ∈ K83, ∀ st, c.f 0 st = none := by
  intro c hc st
  simp only [K83, List.mem_cons, List.not_mem_nil, or_false] at hc
  rcases hc with rfl | rfl
  · show C83_0 0 st = none; unfold C83_0; split <;> rfl
  · show C83_1 0 st = none; unfold C83_1; split <;> rfl
theorem h83_ok : ∀ c ∈ K83, ∀ k st out, c.f (k + 1) st = some out → seg Try.prog O83 K83 k (body Try.f83) (kEnd Try.prog Try.f83.results.toList) c.p st = some out := by
  intro c hc k st out h
  simp only [K83, List.mem_cons, List.not_mem_nil, or_false] at hc
  rcases hc with rfl | rfl
  · exact h83_0 k st out h
  · exact h83_1 k st out h
theorem g83 (k : Nat) (l0 : List (S93)) (a1 : Int) (r : Int × Bool) (h : spec_BalsSum.f k l0 a1 = some r) : Good Try.prog 83 [.w (.c (.rw 0)), .w (.c (.sc (.i .i64 a1)))] [.rows 0 (.e93 l0)] (o83 l0 r) := by
  refine fn_ok (k := k) O83_ok mixed Try.func83 (root := body Try.f83) (by kernel_rfl) z83_ok h83_ok ?_
  refine Lo.of (b := ((spec_BalsSum.l0 k l0 a1 0 0).bind fun r => some (o83 l0 r))) (c := (spec_BalsSum.f k l0 a1).bind fun r => some (o83 l0 r)) (by kernel_rfl) ?_ _ (by rw [h]; rfl)
  · unfold spec_BalsSum.f
    repeat' first
    | with_reducible exact none_L
    | with_reducible refine letB_L (fun _ _ => ?_)
    | with_reducible refine bind_L (fun _ => ?_)
    | with_reducible refine ite_L (fun _ => ?_) (fun _ => ?_)
    | with_reducible refine drop_L (by first | assumption | omega | (simp only [*, List.length_set]; done)) ?_
    | with_reducible refine let_L ?_
    | with_reducible refine some_L ?_
    | with_reducible refine letT_L ?_
    | with_reducible refine ite_I (by omega) (fun _ => ?_) (fun _ => ?_)
    | rfl
    | simp only [Bool.decide_eq_true]
    | exact Lo.refl _
    | (refine Lo.eq ?_; simp only [Bool.decide_eq_true]; done)
    | refine ite_L (fun _ => ?_) (fun _ => ?_)
theorem d83 : Sound Try.prog ⟨83, false, Q83⟩ := sound_of ⟨_, Try.func83, by kernel_rfl, by kernel_rfl⟩ fun k args hp Z K z h => by
  unfold Q83 at h
  split at h
  · obtain ⟨r, hr, hK⟩ := Option.bind_eq_some_iff.1 h
    exact ⟨_, hK, g83 k _ _ r hr⟩
  · cases h
def o58 (l0_0 : List S88) (l0_1 : List S90) (l0_2 : List S93) (l0_3 : List S96) (l0_4 : List S50) (r : Bool) : Out Rw := ⟨[.c (.sc (.b r))], [.rows 0 (.e88 l0_0), .rows 0 (.e90 l0_1), .rows 0 (.e93 l0_2), .rows 0 (.e96 l0_3), .rows 0 (.e50 l0_4)]⟩
def Q58 : Mean Rw := fun k a h Z K => match a, h with
  | [.w (.ag [.rw 0, .rw 1, .rw 2, .rw 3, .rw 4, .sc (.i .i64 a0_5)])], [.rows 0 (.e88 l0_0), .rows 0 (.e90 l0_1), .rows 0 (.e93 l0_2), .rows 0 (.e96 l0_3), .rows 0 (.e50 l0_4)] => (spec_l6Bals.f k l0_0 l0_1 l0_2 l0_3 l0_4 a0_5).bind fun r => K (o58 l0_0 l0_1 l0_2 l0_3 l0_4 r)
  | _, _ => none
def O58 : List (Cal Rw) := [⟨60, false, Q60⟩, ⟨61, false, Q61⟩, ⟨83, false, Q83⟩]
theorem O58_ok : ∀ c ∈ O58, Sound Try.prog c := by
  intro c hc
  simp only [O58, List.mem_cons, List.not_mem_nil, or_false] at hc
  rcases hc with rfl | rfl | rfl
  · exact d60
  · exact d61
  · exact d83
def C58_0 : Nat → St Rw → Option (Out Rw) := fun k st => match st with
  | ⟨58, 5, 6, [(1, .pt 5 0), (3, .w (.c (.sc (.i .i64 x3))))], [(0, .rows 0 (.e88 l0_0)), (1, .rows 0 (.e90 l0_1)), (2, .rows 0 (.e93 l0_2)), (3, .rows 0 (.e96 l0_3)), (4, .rows 0 (.e50 l0_4)), (5, .box 34 [.rw 0, .rw 1, .rw 2, .rw 3, .rw 4, .sc (.i .i64 b5_5)])]⟩ => (spec_l6Bals.l0 k x3 l0_0 l0_1 l0_2 l0_3 l0_4 b5_5).bind fun r => some (o58 l0_0 l0_1 l0_2 l0_3 l0_4 r)
  | _ => none
def C58_1 : Nat → St Rw → Option (Out Rw) := fun k st => match st with
  | ⟨58, 5, 7, [(1, .pt 5 0), (3, .w (.c (.sc (.i .i64 x3)))), (4, .pt 6 0), (43, .w (.c (.sc (.b x43))))], [(0, .rows 0 (.e88 l0_0)), (1, .rows 0 (.e90 l0_1)), (2, .rows 0 (.e93 l0_2)), (3, .rows 0 (.e96 l0_3)), (4, .rows 0 (.e50 l0_4)), (5, .box 34 [.rw 0, .rw 1, .rw 2, .rw 3, .rw 4, .sc (.i .i64 b5_5)]), (6, .box 93 [.sc (.i .i64 b6_0), .sc (.i .i64 b6_1), .sc (.i .i64 b6_2)])]⟩ => (spec_l6Bals.j1 k x3 x43 l0_0 l0_1 l0_2 l0_3 l0_4 b5_5 b6_0 b6_1 b6_2).bind fun r => some (o58 l0_0 l0_1 l0_2 l0_3 l0_4 r)
  | _ => none
def K58 : List (Cut Rw) := [⟨[false, true, false, true], [1, 3], C58_0⟩, ⟨[true, false, true, true, false, false, true, false, false, true, false, true], [1, 3, 4, 43], C58_1⟩]
theorem e58_0 (k : Nat) (x3 : Int) (l0_0 : List S88) (l0_1 : List S90) (l0_2 : List S93) (l0_3 : List S96) (l0_4 : List S50) (b5_5 : Int) : Lo (seg Try.prog O58 K58 k (body Try.f58) (kEnd Try.prog Try.f58.results.toList) [false, true, false, true] ⟨58, 5, 6, [(1, .pt 5 0), (3, .w (.c (.sc (.i .i64 x3))))], [(0, .rows 0 (.e88 l0_0)), (1, .rows 0 (.e90 l0_1)), (2, .rows 0 (.e93 l0_2)), (3, .rows 0 (.e96 l0_3)), (4, .rows 0 (.e50 l0_4)), (5, .box 34 [.rw 0, .rw 1, .rw 2, .rw 3, .rw 4, .sc (.i .i64 b5_5)])]⟩) ((spec_l6Bals.l0 (k + 1) x3 l0_0 l0_1 l0_2 l0_3 l0_4 b5_5).bind fun r => some (o58 l0_0 l0_1 l0_2 l0_3 l0_4 r)) :=
  Lo.of (b := (if x3 < (l0_2.length : Int) then (if 0 ≤ x3 then (if x3 < (l0_2.length : Int) then ((spec_AccountKind.f k l0_0 (rd_T93 l0_2 x3).f0).bind fun r8 => (if r8 = 0 then ((spec_l6Bals.j1 k x3 true l0_0 l0_1 l0_2 l0_3 l0_4 b5_5 ((rd_T93 l0_2 x3).f0) ((rd_T93 l0_2 x3).f1) ((rd_T93 l0_2 x3).f2)).bind fun r => some (o58 l0_0 l0_1 l0_2 l0_3 l0_4 r)) else ((spec_InstrKind.f k l0_1 (rd_T93 l0_2 x3).f1).bind fun r9 => (if r9 = 0 then ((spec_l6Bals.j1 k x3 true l0_0 l0_1 l0_2 l0_3 l0_4 b5_5 ((rd_T93 l0_2 x3).f0) ((rd_T93 l0_2 x3).f1) ((rd_T93 l0_2 x3).f2)).bind fun r => some (o58 l0_0 l0_1 l0_2 l0_3 l0_4 r)) else (if r8 = 1 then ((spec_l6Bals.j1 k x3 (decide ((rd_T93 l0_2 x3).f2 < 0)) l0_0 l0_1 l0_2 l0_3 l0_4 b5_5 ((rd_T93 l0_2 x3).f0) ((rd_T93 l0_2 x3).f1) ((rd_T93 l0_2 x3).f2)).bind fun r => some (o58 l0_0 l0_1 l0_2 l0_3 l0_4 r)) else ((spec_l6Bals.j1 k x3 false l0_0 l0_1 l0_2 l0_3 l0_4 b5_5 ((rd_T93 l0_2 x3).f0) ((rd_T93 l0_2 x3).f1) ((rd_T93 l0_2 x3).f2)).bind fun r => some (o58 l0_0 l0_1 l0_2 l0_3 l0_4 r))))))) else none) else none) else (some (o58 l0_0 l0_1 l0_2 l0_3 l0_4 true)))) (by kernel_rfl) (by
    rw [spec_l6Bals.l0]
    repeat' first
    | with_reducible exact none_L
    | with_reducible refine letB_L (fun _ _ => ?_)
    | with_reducible refine bind_L (fun _ => ?_)
    | with_reducible refine ite_L (fun _ => ?_) (fun _ => ?_)
    | with_reducible refine drop_L (by first | assumption | omega | (simp only [*, List.length_set]; done)) ?_
    | with_reducible refine let_L ?_
    | with_reducible refine some_L ?_
    | with_reducible refine letT_L ?_
    | with_reducible refine ite_I (by omega) (fun _ => ?_) (fun _ => ?_)
    | rfl
    | simp only [Bool.decide_eq_true]
    | exact Lo.refl _
    | (refine Lo.eq ?_; simp only [Bool.decide_eq_true]; done)
    | refine ite_L (fun _ => ?_) (fun _ => ?_))
theorem h58_0 (k : Nat) (st : St Rw) (out : Out Rw) (h : C58_0 (k + 1) st = some out) : seg Try.prog O58 K58 k (body Try.f58) (kEnd Try.prog Try.f58.results.toList) [false, true, false, true] st = some out := by
  unfold C58_0 at h
  split at h
  · exact e58_0 _ _ _ _ _ _ _ _ out h
  · cases h
theorem e58_1 (k : Nat) (x3 : Int) (x43 : Bool) (l0_0 : List S88) (l0_1 : List S90) (l0_2 : List S93) (l0_3 : List S96) (l0_4 : List S50) (b5_5 : Int) (b6_0 : Int) (b6_1 : Int) (b6_2 : Int) : Lo (seg Try.prog O58 K58 k (body Try.f58) (kEnd Try.prog Try.f58.results.toList) [true, false, true, true, false, false, true, false, false, true, false, true] ⟨58, 5, 7, [(1, .pt 5 0), (3, .w (.c (.sc (.i .i64 x3)))), (4, .pt 6 0), (43, .w (.c (.sc (.b x43))))], [(0, .rows 0 (.e88 l0_0)), (1, .rows 0 (.e90 l0_1)), (2, .rows 0 (.e93 l0_2)), (3, .rows 0 (.e96 l0_3)), (4, .rows 0 (.e50 l0_4)), (5, .box 34 [.rw 0, .rw 1, .rw 2, .rw 3, .rw 4, .sc (.i .i64 b5_5)]), (6, .box 93 [.sc (.i .i64 b6_0), .sc (.i .i64 b6_1), .sc (.i .i64 b6_2)])]⟩) ((spec_l6Bals.j1 (k + 1) x3 x43 l0_0 l0_1 l0_2 l0_3 l0_4 b5_5 b6_0 b6_1 b6_2).bind fun r => some (o58 l0_0 l0_1 l0_2 l0_3 l0_4 r)) :=
  Lo.of (b := (if x43 = true then (some (o58 l0_0 l0_1 l0_2 l0_3 l0_4 false)) else ((spec_BalsSum.f k l0_2 b6_1).bind fun r12 => (if r12.2 = true then (if r12.1 = 0 then ((spec_l6Bals.l0 k (RowKit.wrap64 (x3 + 1)) l0_0 l0_1 l0_2 l0_3 l0_4 b5_5).bind fun r => some (o58 l0_0 l0_1 l0_2 l0_3 l0_4 r)) else (some (o58 l0_0 l0_1 l0_2 l0_3 l0_4 false))) else (some (o58 l0_0 l0_1 l0_2 l0_3 l0_4 false)))))) (by kernel_rfl) (by
    rw [spec_l6Bals.j1]
    repeat' first
    | with_reducible exact none_L
    | with_reducible refine letB_L (fun _ _ => ?_)
    | with_reducible refine bind_L (fun _ => ?_)
    | with_reducible refine ite_L (fun _ => ?_) (fun _ => ?_)
    | with_reducible refine drop_L (by first | assumption | omega | (simp only [*, List.length_set]; done)) ?_
    | with_reducible refine let_L ?_
    | with_reducible refine some_L ?_
    | with_reducible refine letT_L ?_
    | with_reducible refine ite_I (by omega) (fun _ => ?_) (fun _ => ?_)
    | rfl
    | simp only [Bool.decide_eq_true]
    | exact Lo.refl _
    | (refine Lo.eq ?_; simp only [Bool.decide_eq_true]; done)
    | refine ite_L (fun _ => ?_) (fun _ => ?_))
theorem h58_1 (k : Nat) (st : St Rw) (out : Out Rw) (h : C58_1 (k + 1) st = some out) : seg Try.prog O58 K58 k (body Try.f58) (kEnd Try.prog Try.f58.results.toList) [true, false, true, true, false, false, true, false, false, true, false, true] st = some out := by
  unfold C58_1 at h
  split at h
  · exact e58_1 _ _ _ _ _ _ _ _ _ _ _ _ out h
  · cases h
theorem z58_ok : ∀ c ∈ K58, ∀ st, c.f 0 st = none := by
  intro c hc st
  simp only [K58, List.mem_cons, List.not_mem_nil, or_false] at hc
  rcases hc with rfl | rfl
  · show C58_0 0 st = none; unfold C58_0; split <;> rfl
  · show C58_1 0 st = none; unfold C58_1; split <;> rfl
theorem h58_ok : ∀ c ∈ K58, ∀ k st out, c.f (k + 1) st = some out → seg Try.prog O58 K58 k (body Try.f58) (kEnd Try.prog Try.f58.results.toList) c.p st = some out := by
  intro c hc k st out h
  simp only [K58, List.mem_cons, List.not_mem_nil, or_false] at hc
  rcases hc with rfl | rfl
  · exact h58_0 k st out h
  · exact h58_1 k st out h
theorem g58 (k : Nat) (l0_0 : List (S88)) (l0_1 : List (S90)) (l0_2 : List (S93)) (l0_3 : List (S96)) (l0_4 : List (S50)) (a0_5 : Int) (r : Bool) (h : spec_l6Bals.f k l0_0 l0_1 l0_2 l0_3 l0_4 a0_5 = some r) : Good Try.prog 58 [.w (.ag [.rw 0, .rw 1, .rw 2, .rw 3, .rw 4, .sc (.i .i64 a0_5)])] [.rows 0 (.e88 l0_0), .rows 0 (.e90 l0_1), .rows 0 (.e93 l0_2), .rows 0 (.e96 l0_3), .rows 0 (.e50 l0_4)] (o58 l0_0 l0_1 l0_2 l0_3 l0_4 r) := by
  refine fn_ok (k := k) O58_ok mixed Try.func58 (root := body Try.f58) (by kernel_rfl) z58_ok h58_ok ?_
  refine Lo.of (b := ((spec_l6Bals.l0 k 0 l0_0 l0_1 l0_2 l0_3 l0_4 a0_5).bind fun r => some (o58 l0_0 l0_1 l0_2 l0_3 l0_4 r))) (c := (spec_l6Bals.f k l0_0 l0_1 l0_2 l0_3 l0_4 a0_5).bind fun r => some (o58 l0_0 l0_1 l0_2 l0_3 l0_4 r)) (by kernel_rfl) ?_ _ (by rw [h]; rfl)
  · unfold spec_l6Bals.f
    repeat' first
    | with_reducible exact none_L
    | with_reducible refine letB_L (fun _ _ => ?_)
    | with_reducible refine bind_L (fun _ => ?_)
    | with_reducible refine ite_L (fun _ => ?_) (fun _ => ?_)
    | with_reducible refine drop_L (by first | assumption | omega | (simp only [*, List.length_set]; done)) ?_
    | with_reducible refine let_L ?_
    | with_reducible refine some_L ?_
    | with_reducible refine letT_L ?_
    | with_reducible refine ite_I (by omega) (fun _ => ?_) (fun _ => ?_)
    | rfl
    | simp only [Bool.decide_eq_true]
    | exact Lo.refl _
    | (refine Lo.eq ?_; simp only [Bool.decide_eq_true]; done)
    | refine ite_L (fun _ => ?_) (fun _ => ?_)
theorem d58 : Sound Try.prog ⟨58, false, Q58⟩ := sound_of ⟨_, Try.func58, by kernel_rfl, by kernel_rfl⟩ fun k args hp Z K z h => by
  unfold Q58 at h
  split at h
  · obtain ⟨r, hr, hK⟩ := Option.bind_eq_some_iff.1 h
    exact ⟨_, hK, g58 k _ _ _ _ _ _ r hr⟩
  · cases h
def o84 (l0 : List S96) (r : (List (S96)) × (List (S96))) : Out Rw := ⟨[.c (.rw 1), .c (.rw 2)], [.rows 0 (.e96 l0), .rows 2 (.e96 r.1), .rows 2 (.e96 r.2)]⟩
def Q84 : Mean Rw := fun k a h Z K => match a, h with
  | [.w (.c (.rw 0)), .w (.c (.sc (.i .i64 a1))), .w (.c (.sc (.i .i64 a2)))], [.rows 0 (.e96 l0)] => (spec_l5Split.f k l0 a1 a2).bind fun r => K (o84 l0 r)
  | _, _ => none
def O84 : List (Cal Rw) := []
theorem O84_ok : ∀ c ∈ O84, Sound Try.prog c := by
  intro c hc
  simp only [O84, List.mem_cons, List.not_mem_nil, or_false] at hc
def C84_0 : Nat → St Rw → Option (Out Rw) := fun k st => match st with
  | ⟨51, 1, 3, [(0, .w (.c (.rw 0))), (1, .w (.c (.sc (.i .i64 x1)))), (2, .w (.c (.sc (.i .i64 x2)))), (8, .w (.c (.rw 1))), (9, .w (.c (.rw 2))), (10, .w (.c (.sc (.i .i64 x10))))], [(0, .rows 0 (.e96 l0)), (1, .rows 2 (.e96 y1)), (2, .rows 2 (.e96 y2))]⟩ => (spec_l5Split.l0 k l0 x1 x2 y1 y2 x10).bind fun r => some (o84 l0 r)
  | _ => none
def K84 : List (Cut Rw) := [⟨[false, true, false, true, true], [0, 1, 2, 8, 9, 10], C84_0⟩]
theorem e84_0 (k : Nat) (x1 : Int) (x2 : Int) (x10 : Int) (l0 : List S96) (y1 : List S96) (y2 : List S96) : Lo (seg Try.prog O84 K84 k (body Try.f84) (kEnd Try.prog Try.f84.results.toList) [false, true, false, true, true] ⟨51, 1, 3, [(0, .w (.c (.rw 0))), (1, .w (.c (.sc (.i .i64 x1)))), (2, .w (.c (.sc (.i .i64 x2)))), (8, .w (.c (.rw 1))), (9, .w (.c (.rw 2))), (10, .w (.c (.sc (.i .i64 x10))))], [(0, .rows 0 (.e96 l0)), (1, .rows 2 (.e96 y1)), (2, .rows 2 (.e96 y2))]⟩) ((spec_l5Split.l0 (k + 1) l0 x1 x2 y1 y2 x10).bind fun r => some (o84 l0 r)) :=
  Lo.of (b := (if x10 < (l0.length : Int) then (if 0 ≤ x10 then (if x10 < (l0.length : Int) then (if (rd_T96 l0 x10).f0 = x1 then (if 0 ≤ x10 then (if x10 < (l0.length : Int) then (if (rd_T96 l0 x10).f1 = x2 then (if 0 ≤ x10 then (if x10 < (l0.length : Int) then (if y1.length + 1 < 3518437208884 then ((spec_l5Split.l0 k l0 x1 x2 (y1 ++ ([(⟨(rd_T96 l0 x10).f0, (rd_T96 l0 x10).f1, (rd_T96 l0 x10).f2, (rd_T96 l0 x10).f3, (rd_T96 l0 x10).f4⟩ : S96)])) y2 (RowKit.wrap64 (x10 + 1))).bind fun r => some (o84 l0 r)) else none) else none) else none) else (if 0 ≤ x10 then (if x10 < (l0.length : Int) then (if y2.length + 1 < 3518437208884 then ((spec_l5Split.l0 k l0 x1 x2 y1 (y2 ++ ([(⟨(rd_T96 l0 x10).f0, (rd_T96 l0 x10).f1, (rd_T96 l0 x10).f2, (rd_T96 l0 x10).f3, (rd_T96 l0 x10).f4⟩ : S96)])) (RowKit.wrap64 (x10 + 1))).bind fun r => some (o84 l0 r)) else none) else none) else none)) else none) else none) else (if 0 ≤ x10 then (if x10 < (l0.length : Int) then (if y2.length + 1 < 3518437208884 then ((spec_l5Split.l0 k l0 x1 x2 y1 (y2 ++ ([(⟨(rd_T96 l0 x10).f0, (rd_T96 l0 x10).f1, (rd_T96 l0 x10).f2, (rd_T96 l0 x10).f3, (rd_T96 l0 x10).f4⟩ : S96)])) (RowKit.wrap64 (x10 + 1))).bind fun r => some (o84 l0 r)) else none) else none) else none)) else none) else none) else (some (o84 l0 (y1, y2))))) (by kernel_rfl) (by
    rw [spec_l5Split.l0]
    repeat' first
    | with_reducible exact none_L
    | with_reducible refine letB_L (fun _ _ => ?_)
    | with_reducible refine bind_L (fun _ => ?_)
    | with_reducible refine ite_L (fun _ => ?_) (fun _ => ?_)
    | with_reducible refine drop_L (by first | assumption | omega | (simp only [*, List.length_set]; done)) ?_
    | with_reducible refine let_L ?_
    | with_reducible refine some_L ?_
    | with_reducible refine letT_L ?_
    | with_reducible refine ite_I (by omega) (fun _ => ?_) (fun _ => ?_)
    | rfl
    | simp only [Bool.decide_eq_true]
    | exact Lo.refl _
    | (refine Lo.eq ?_; simp only [Bool.decide_eq_true]; done)
    | refine ite_L (fun _ => ?_) (fun _ => ?_))
theorem h84_0 (k : Nat) (st : St Rw) (out : Out Rw) (h : C84_0 (k + 1) st = some out) : seg Try.prog O84 K84 k (body Try.f84) (kEnd Try.prog Try.f84.results.toList) [false, true, false, true, true] st = some out := by
  unfold C84_0 at h
  split at h
  · exact e84_0 _ _ _ _ _ _ _ out h
  · cases h
theorem z84_ok : ∀ c ∈ K84, ∀ st, c.f 0 st = none := by
  intro c hc st
  simp only [K84, List.mem_cons, List.not_mem_nil, or_false] at hc
  rcases hc with rfl
  · show C84_0 0 st = none; unfold C84_0; split <;> rfl
theorem h84_ok : ∀ c ∈ K84, ∀ k st out, c.f (k + 1) st = some out → seg Try.prog O84 K84 k (body Try.f84) (kEnd Try.prog Try.f84.results.toList) c.p st = some out := by
  intro c hc k st out h
  simp only [K84, List.mem_cons, List.not_mem_nil, or_false] at hc
  rcases hc with rfl
  · exact h84_0 k st out h
theorem g84 (k : Nat) (l0 : List (S96)) (a1 : Int) (a2 : Int) (r : (List (S96)) × (List (S96))) (h : spec_l5Split.f k l0 a1 a2 = some r) : Good Try.prog 84 [.w (.c (.rw 0)), .w (.c (.sc (.i .i64 a1))), .w (.c (.sc (.i .i64 a2)))] [.rows 0 (.e96 l0)] (o84 l0 r) := by
  refine fn_ok (k := k) O84_ok mixed Try.func84 (root := body Try.f84) (by kernel_rfl) z84_ok h84_ok ?_
  refine Lo.of (b := ((spec_l5Split.l0 k l0 a1 a2 ([]) ([]) 0).bind fun r => some (o84 l0 r))) (c := (spec_l5Split.f k l0 a1 a2).bind fun r => some (o84 l0 r)) (by kernel_rfl) ?_ _ (by rw [h]; rfl)
  · unfold spec_l5Split.f
    repeat' first
    | with_reducible exact none_L
    | with_reducible refine letB_L (fun _ _ => ?_)
    | with_reducible refine bind_L (fun _ => ?_)
    | with_reducible refine ite_L (fun _ => ?_) (fun _ => ?_)
    | with_reducible refine drop_L (by first | assumption | omega | (simp only [*, List.length_set]; done)) ?_
    | with_reducible refine let_L ?_
    | with_reducible refine some_L ?_
    | with_reducible refine letT_L ?_
    | with_reducible refine ite_I (by omega) (fun _ => ?_) (fun _ => ?_)
    | rfl
    | simp only [Bool.decide_eq_true]
    | exact Lo.refl _
    | (refine Lo.eq ?_; simp only [Bool.decide_eq_true]; done)
    | refine ite_L (fun _ => ?_) (fun _ => ?_)
theorem d84 : Sound Try.prog ⟨84, false, Q84⟩ := sound_of ⟨_, Try.func84, by kernel_rfl, by kernel_rfl⟩ fun k args hp Z K z h => by
  unfold Q84 at h
  split at h
  · obtain ⟨r, hr, hK⟩ := Option.bind_eq_some_iff.1 h
    exact ⟨_, hK, g84 k _ _ _ r hr⟩
  · cases h
end Go.Proofs.Ytmfgajbkcnlkcaa.AI
namespace Go.Proofs.Ytmfgajbkcnlkcaa.AI
open Go Go.RowKit Go.Proofs.YtmfgajbkcnlkcaaW.PrintWords Go.Proofs.Ytmfgajbkcnlkcaa.P
set_option linter.unusedVariables false
set_option linter.all false
set_option maxRecDepth 100000
def o85 (l0 : List S96) (r : Int) : Out Rw := ⟨[.c (.sc (.i .i64 r))], [.rows 0 (.e96 l0)]⟩
def Q85 : Mean Rw := fun k a h Z K => match a, h with
  | [.w (.c (.rw 0))], [.rows 0 (.e96 l0)] => (spec_l5Qty.f k l0).bind fun r => K (o85 l0 r)
  | _, _ => none
def O85 : List (Cal Rw) := []
theorem O85_ok : ∀ c ∈ O85, Sound Try.prog c := by
  intro c hc
  simp only [O85, List.mem_cons, List.not_mem_nil, or_false] at hc
def C85_0 : Nat → St Rw → Option (Out Rw) := fun k st => match st with
  | ⟨19, 1, 1, [(0, .w (.c (.rw 0))), (3, .w (.c (.sc (.i .i64 x3)))), (4, .w (.c (.sc (.i .i64 x4))))], [(0, .rows 0 (.e96 l0))]⟩ => (spec_l5Qty.l0 k l0 x3 x4).bind fun r => some (o85 l0 r)
  | _ => none
def K85 : List (Cut Rw) := [⟨[false, true, false, true, true], [0, 3, 4], C85_0⟩]
theorem e85_0 (k : Nat) (x3 : Int) (x4 : Int) (l0 : List S96) : Lo (seg Try.prog O85 K85 k (body Try.f85) (kEnd Try.prog Try.f85.results.toList) [false, true, false, true, true] ⟨19, 1, 1, [(0, .w (.c (.rw 0))), (3, .w (.c (.sc (.i .i64 x3)))), (4, .w (.c (.sc (.i .i64 x4))))], [(0, .rows 0 (.e96 l0))]⟩) ((spec_l5Qty.l0 (k + 1) l0 x3 x4).bind fun r => some (o85 l0 r)) :=
  Lo.of (b := (if x4 < (l0.length : Int) then (if 0 ≤ x4 then (if x4 < (l0.length : Int) then ((spec_l5Qty.l0 k l0 (RowKit.wrap64 (x3 + (rd_T96 l0 x4).f3)) (RowKit.wrap64 (x4 + 1))).bind fun r => some (o85 l0 r)) else none) else none) else (some (o85 l0 x3)))) (by kernel_rfl) (by
    rw [spec_l5Qty.l0]
    repeat' first
    | with_reducible exact none_L
    | with_reducible refine letB_L (fun _ _ => ?_)
    | with_reducible refine bind_L (fun _ => ?_)
    | with_reducible refine ite_L (fun _ => ?_) (fun _ => ?_)
    | with_reducible refine drop_L (by first | assumption | omega | (simp only [*, List.length_set]; done)) ?_
    | with_reducible refine let_L ?_
    | with_reducible refine some_L ?_
    | with_reducible refine letT_L ?_
    | with_reducible refine ite_I (by omega) (fun _ => ?_) (fun _ => ?_)
    | rfl
    | simp only [Bool.decide_eq_true]
    | exact Lo.refl _
    | (refine Lo.eq ?_; simp only [Bool.decide_eq_true]; done)
    | refine ite_L (fun _ => ?_) (fun _ => ?_))
theorem h85_0 (k : Nat) (st : St Rw) (out : Out Rw) (h : C85_0 (k + 1) st = some out) : seg Try.prog O85 K85 k (body Try.f85) (kEnd Try.prog Try.f85.results.toList) [false, true, false, true, true] st = some out := by
  unfold C85_0 at h
  split at h
  · exact e85_0 _ _ _ _ out h
  · cases h
theorem z85_ok : ∀ c ∈ K85, ∀ st, c.f 0 st = none := by
  intro c hc st
  simp only [K85, List.mem_cons, List.not_mem_nil, or_false] at hc
  rcases hc with rfl
  · show C85_0 0 st = none; unfold C85_0; split <;> rfl
theorem h85_ok : ∀ c ∈ K85, ∀ k st out, c.f (k + 1) st = some out → seg Try.prog O85 K85 k (body Try.f85) (kEnd Try.prog Try.f85.results.toList) c.p st = some out := by
  intro c hc k st out h
  simp only [K85, List.mem_cons, List.not_mem_nil, or_false] at hc
  rcases hc with rfl
  · exact h85_0 k st out h
theorem g85 (k : Nat) (l0 : List (S96)) (r : Int) (h : spec_l5Qty.f k l0 = some r) : Good Try.prog 85 [.w (.c (.rw 0))] [.rows 0 (.e96 l0)] (o85 l0 r) := by
  refine fn_ok (k := k) O85_ok mixed Try.func85 (root := body Try.f85) (by kernel_rfl) z85_ok h85_ok ?_
  refine Lo.of (b := ((spec_l5Qty.l0 k l0 0 0).bind fun r => some (o85 l0 r))) (c := (spec_l5Qty.f k l0).bind fun r => some (o85 l0 r)) (by kernel_rfl) ?_ _ (by rw [h]; rfl)
  · unfold spec_l5Qty.f
    repeat' first
    | with_reducible exact none_L
    | with_reducible refine letB_L (fun _ _ => ?_)
    | with_reducible refine bind_L (fun _ => ?_)
    | with_reducible refine ite_L (fun _ => ?_) (fun _ => ?_)
    | with_reducible refine drop_L (by first | assumption | omega | (simp only [*, List.length_set]; done)) ?_
    | with_reducible refine let_L ?_
    | with_reducible refine some_L ?_
    | with_reducible refine letT_L ?_
    | with_reducible refine ite_I (by omega) (fun _ => ?_) (fun _ => ?_)
    | rfl
    | simp only [Bool.decide_eq_true]
    | exact Lo.refl _
    | (refine Lo.eq ?_; simp only [Bool.decide_eq_true]; done)
    | refine ite_L (fun _ => ?_) (fun _ => ?_)
theorem d85 : Sound Try.prog ⟨85, false, Q85⟩ := sound_of ⟨_, Try.func85, by kernel_rfl, by kernel_rfl⟩ fun k args hp Z K z h => by
  unfold Q85 at h
  split at h
  · obtain ⟨r, hr, hK⟩ := Option.bind_eq_some_iff.1 h
    exact ⟨_, hK, g85 k _ r hr⟩
  · cases h
def o86 (l0 : List S93) (r : Int) : Out Rw := ⟨[.c (.sc (.i .i64 r))], [.rows 0 (.e93 l0)]⟩
def Q86 : Mean Rw := fun k a h Z K => match a, h with
  | [.w (.c (.rw 0)), .w (.c (.sc (.i .i64 a1))), .w (.c (.sc (.i .i64 a2)))], [.rows 0 (.e93 l0)] => (spec_l4Of.f k l0 a1 a2).bind fun r => K (o86 l0 r)
  | _, _ => none
def O86 : List (Cal Rw) := []
theorem O86_ok : ∀ c ∈ O86, Sound Try.prog c := by
  intro c hc
  simp only [O86, List.mem_cons, List.not_mem_nil, or_false] at hc
def C86_0 : Nat → St Rw → Option (Out Rw) := fun k st => match st with
  | ⟨35, 1, 1, [(0, .w (.c (.rw 0))), (1, .w (.c (.sc (.i .i64 x1)))), (2, .w (.c (.sc (.i .i64 x2)))), (7, .w (.c (.sc (.i .i64 x7))))], [(0, .rows 0 (.e93 l0))]⟩ => (spec_l4Of.l0 k l0 x1 x2 x7).bind fun r => some (o86 l0 r)
  | _ => none
def K86 : List (Cut Rw) := [⟨[false, true, false, true], [0, 1, 2, 7], C86_0⟩]
theorem e86_0 (k : Nat) (x1 : Int) (x2 : Int) (x7 : Int) (l0 : List S93) : Lo (seg Try.prog O86 K86 k (body Try.f86) (kEnd Try.prog Try.f86.results.toList) [false, true, false, true] ⟨35, 1, 1, [(0, .w (.c (.rw 0))), (1, .w (.c (.sc (.i .i64 x1)))), (2, .w (.c (.sc (.i .i64 x2)))), (7, .w (.c (.sc (.i .i64 x7))))], [(0, .rows 0 (.e93 l0))]⟩) ((spec_l4Of.l0 (k + 1) l0 x1 x2 x7).bind fun r => some (o86 l0 r)) :=
  Lo.of (b := (if x7 < (l0.length : Int) then (if 0 ≤ x7 then (if x7 < (l0.length : Int) then (if (rd_T93 l0 x7).f0 = x1 then (if 0 ≤ x7 then (if x7 < (l0.length : Int) then (if (rd_T93 l0 x7).f1 = x2 then (if 0 ≤ x7 then (if x7 < (l0.length : Int) then (some (o86 l0 ((rd_T93 l0 x7).f2))) else none) else none) else ((spec_l4Of.l0 k l0 x1 x2 (RowKit.wrap64 (x7 + 1))).bind fun r => some (o86 l0 r))) else none) else none) else ((spec_l4Of.l0 k l0 x1 x2 (RowKit.wrap64 (x7 + 1))).bind fun r => some (o86 l0 r))) else none) else none) else (some (o86 l0 0)))) (by kernel_rfl) (by
    rw [spec_l4Of.l0]
    repeat' first
    | with_reducible exact none_L
    | with_reducible refine letB_L (fun _ _ => ?_)
    | with_reducible refine bind_L (fun _ => ?_)
    | with_reducible refine ite_L (fun _ => ?_) (fun _ => ?_)
    | with_reducible refine drop_L (by first | assumption | omega | (simp only [*, List.length_set]; done)) ?_
    | with_reducible refine let_L ?_
    | with_reducible refine some_L ?_
    | with_reducible refine letT_L ?_
    | with_reducible refine ite_I (by omega) (fun _ => ?_) (fun _ => ?_)
    | rfl
    | simp only [Bool.decide_eq_true]
    | exact Lo.refl _
    | (refine Lo.eq ?_; simp only [Bool.decide_eq_true]; done)
    | refine ite_L (fun _ => ?_) (fun _ => ?_))
theorem h86_0 (k : Nat) (st : St Rw) (out : Out Rw) (h : C86_0 (k + 1) st = some out) : seg Try.prog O86 K86 k (body Try.f86) (kEnd Try.prog Try.f86.results.toList) [false, true, false, true] st = some out := by
  unfold C86_0 at h
  split at h
  · exact e86_0 _ _ _ _ _ out h
  · cases h
theorem z86_ok : ∀ c ∈ K86, ∀ st, c.f 0 st = none := by
  intro c hc st
  simp only [K86, List.mem_cons, List.not_mem_nil, or_false] at hc
  rcases hc with rfl
  · show C86_0 0 st = none; unfold C86_0; split <;> rfl
theorem h86_ok : ∀ c ∈ K86, ∀ k st out, c.f (k + 1) st = some out → seg Try.prog O86 K86 k (body Try.f86) (kEnd Try.prog Try.f86.results.toList) c.p st = some out := by
  intro c hc k st out h
  simp only [K86, List.mem_cons, List.not_mem_nil, or_false] at hc
  rcases hc with rfl
  · exact h86_0 k st out h
theorem g86 (k : Nat) (l0 : List (S93)) (a1 : Int) (a2 : Int) (r : Int) (h : spec_l4Of.f k l0 a1 a2 = some r) : Good Try.prog 86 [.w (.c (.rw 0)), .w (.c (.sc (.i .i64 a1))), .w (.c (.sc (.i .i64 a2)))] [.rows 0 (.e93 l0)] (o86 l0 r) := by
  refine fn_ok (k := k) O86_ok mixed Try.func86 (root := body Try.f86) (by kernel_rfl) z86_ok h86_ok ?_
  refine Lo.of (b := ((spec_l4Of.l0 k l0 a1 a2 0).bind fun r => some (o86 l0 r))) (c := (spec_l4Of.f k l0 a1 a2).bind fun r => some (o86 l0 r)) (by kernel_rfl) ?_ _ (by rw [h]; rfl)
  · unfold spec_l4Of.f
    repeat' first
    | with_reducible exact none_L
    | with_reducible refine letB_L (fun _ _ => ?_)
    | with_reducible refine bind_L (fun _ => ?_)
    | with_reducible refine ite_L (fun _ => ?_) (fun _ => ?_)
    | with_reducible refine drop_L (by first | assumption | omega | (simp only [*, List.length_set]; done)) ?_
    | with_reducible refine let_L ?_
    | with_reducible refine some_L ?_
    | with_reducible refine letT_L ?_
    | with_reducible refine ite_I (by omega) (fun _ => ?_) (fun _ => ?_)
    | rfl
    | simp only [Bool.decide_eq_true]
    | exact Lo.refl _
    | (refine Lo.eq ?_; simp only [Bool.decide_eq_true]; done)
    | refine ite_L (fun _ => ?_) (fun _ => ?_)
theorem d86 : Sound Try.prog ⟨86, false, Q86⟩ := sound_of ⟨_, Try.func86, by kernel_rfl, by kernel_rfl⟩ fun k args hp Z K z h => by
  unfold Q86 at h
  split at h
  · obtain ⟨r, hr, hK⟩ := Option.bind_eq_some_iff.1 h
    exact ⟨_, hK, g86 k _ _ _ r hr⟩
  · cases h
def o59 (l0_0 : List S88) (l0_1 : List S90) (l0_2 : List S93) (l0_3 : List S96) (l0_4 : List S50) (r : Bool) : Out Rw := ⟨[.c (.sc (.b r))], [.rows 0 (.e88 l0_0), .rows 0 (.e90 l0_1), .rows 0 (.e93 l0_2), .rows 0 (.e96 l0_3), .rows 0 (.e50 l0_4)]⟩
def Q59 : Mean Rw := fun k a h Z K => match a, h with
  | [.w (.ag [.rw 0, .rw 1, .rw 2, .rw 3, .rw 4, .sc (.i .i64 a0_5)])], [.rows 0 (.e88 l0_0), .rows 0 (.e90 l0_1), .rows 0 (.e93 l0_2), .rows 0 (.e96 l0_3), .rows 0 (.e50 l0_4)] => (spec_l6Lots.f k l0_0 l0_1 l0_2 l0_3 l0_4 a0_5).bind fun r => K (o59 l0_0 l0_1 l0_2 l0_3 l0_4 r)
  | _, _ => none
def O59 : List (Cal Rw) := [⟨60, false, Q60⟩, ⟨61, false, Q61⟩, ⟨84, false, Q84⟩, ⟨85, false, Q85⟩, ⟨86, false, Q86⟩]
theorem O59_ok : ∀ c ∈ O59, Sound Try.prog c := by
  intro c hc
  simp only [O59, List.mem_cons, List.not_mem_nil, or_false] at hc
  rcases hc with rfl | rfl | rfl | rfl | rfl
  · exact d60
  · exact d61
  · exact d84
  · exact d85
  · exact d86
def C59_0 : Nat → St Rw → Option (Out Rw) := fun k st => match st with
  | ⟨108, 5, 6, [(1, .pt 5 0), (3, .w (.c (.sc (.i .i64 x3))))], [(0, .rows 0 (.e88 l0_0)), (1, .rows 0 (.e90 l0_1)), (2, .rows 0 (.e93 l0_2)), (3, .rows 0 (.e96 l0_3)), (4, .rows 0 (.e50 l0_4)), (5, .box 34 [.rw 0, .rw 1, .rw 2, .rw 3, .rw 4, .sc (.i .i64 b5_5)])]⟩ => (spec_l6Lots.l0 k x3 l0_0 l0_1 l0_2 l0_3 l0_4 b5_5).bind fun r => some (o59 l0_0 l0_1 l0_2 l0_3 l0_4 r)
  | _ => none
def C59_1 : Nat → St Rw → Option (Out Rw) := fun k st => match st with
  | ⟨108, 5, 6, [(1, .pt 5 0), (5, .w (.c (.sc (.i .i64 x5))))], [(0, .rows 0 (.e88 l0_0)), (1, .rows 0 (.e90 l0_1)), (2, .rows 0 (.e93 l0_2)), (3, .rows 0 (.e96 l0_3)), (4, .rows 0 (.e50 l0_4)), (5, .box 34 [.rw 0, .rw 1, .rw 2, .rw 3, .rw 4, .sc (.i .i64 b5_5)])]⟩ => (spec_l6Lots.l1 k x5 l0_0 l0_1 l0_2 l0_3 l0_4 b5_5).bind fun r => some (o59 l0_0 l0_1 l0_2 l0_3 l0_4 r)
  | _ => none
def C59_2 : Nat → St Rw → Option (Out Rw) := fun k st => match st with
  | ⟨108, 5, 6, [(1, .pt 5 0), (5, .w (.c (.sc (.i .i64 x5)))), (6, .w (.c (.sc (.i .i64 x6))))], [(0, .rows 0 (.e88 l0_0)), (1, .rows 0 (.e90 l0_1)), (2, .rows 0 (.e93 l0_2)), (3, .rows 0 (.e96 l0_3)), (4, .rows 0 (.e50 l0_4)), (5, .box 34 [.rw 0, .rw 1, .rw 2, .rw 3, .rw 4, .sc (.i .i64 b5_5)])]⟩ => (spec_l6Lots.l2 k x5 x6 l0_0 l0_1 l0_2 l0_3 l0_4 b5_5).bind fun r => some (o59 l0_0 l0_1 l0_2 l0_3 l0_4 r)
  | _ => none
def C59_3 : Nat → St Rw → Option (Out Rw) := fun k st => match st with
  | ⟨108, 5, 6, [(1, .pt 5 0), (5, .w (.c (.sc (.i .i64 x5)))), (6, .w (.c (.sc (.i .i64 x6)))), (71, .w (.c (.sc (.b x71))))], [(0, .rows 0 (.e88 l0_0)), (1, .rows 0 (.e90 l0_1)), (2, .rows 0 (.e93 l0_2)), (3, .rows 0 (.e96 l0_3)), (4, .rows 0 (.e50 l0_4)), (5, .box 34 [.rw 0, .rw 1, .rw 2, .rw 3, .rw 4, .sc (.i .i64 b5_5)])]⟩ => (spec_l6Lots.j3 k x5 x6 x71 l0_0 l0_1 l0_2 l0_3 l0_4 b5_5).bind fun r => some (o59 l0_0 l0_1 l0_2 l0_3 l0_4 r)
  | _ => none
def K59 : List (Cut Rw) := [⟨[false, true, false, true], [1, 3], C59_0⟩, ⟨[false, true, false, true, true], [1, 5], C59_1⟩, ⟨[false, true, false, false, true, false, false, true, false, true, true], [1, 5, 6], C59_2⟩, ⟨[true, false, false, true, false, false, true, false, false, true, false, false, true, false, true, true], [1, 5, 6, 71], C59_3⟩]
theorem e59_0 (k : Nat) (x3 : Int) (l0_0 : List S88) (l0_1 : List S90) (l0_2 : List S93) (l0_3 : List S96) (l0_4 : List S50) (b5_5 : Int) : Lo (seg Try.prog O59 K59 k (body Try.f59) (kEnd Try.prog Try.f59.results.toList) [false, true, false, true] ⟨108, 5, 6, [(1, .pt 5 0), (3, .w (.c (.sc (.i .i64 x3))))], [(0, .rows 0 (.e88 l0_0)), (1, .rows 0 (.e90 l0_1)), (2, .rows 0 (.e93 l0_2)), (3, .rows 0 (.e96 l0_3)), (4, .rows 0 (.e50 l0_4)), (5, .box 34 [.rw 0, .rw 1, .rw 2, .rw 3, .rw 4, .sc (.i .i64 b5_5)])]⟩) ((spec_l6Lots.l0 (k + 1) x3 l0_0 l0_1 l0_2 l0_3 l0_4 b5_5).bind fun r => some (o59 l0_0 l0_1 l0_2 l0_3 l0_4 r)) :=
  Lo.of (b := (if x3 < (l0_3.length : Int) then (if 0 ≤ x3 then (if x3 < (l0_3.length : Int) then ((spec_AccountKind.f k l0_0 (rd_T96 l0_3 x3).f0).bind fun r8 => (if r8 = 1 then ((spec_InstrKind.f k l0_1 (rd_T96 l0_3 x3).f1).bind fun r9 => (if r9 = 2 then (if (rd_T96 l0_3 x3).f2 > b5_5 then (some (o59 l0_0 l0_1 l0_2 l0_3 l0_4 false)) else ((spec_l6Lots.l0 k (RowKit.wrap64 (x3 + 1)) l0_0 l0_1 l0_2 l0_3 l0_4 b5_5).bind fun r => some (o59 l0_0 l0_1 l0_2 l0_3 l0_4 r))) else (some (o59 l0_0 l0_1 l0_2 l0_3 l0_4 false)))) else (some (o59 l0_0 l0_1 l0_2 l0_3 l0_4 false)))) else none) else none) else ((spec_l6Lots.l1 k 0 l0_0 l0_1 l0_2 l0_3 l0_4 b5_5).bind fun r => some (o59 l0_0 l0_1 l0_2 l0_3 l0_4 r)))) (by kernel_rfl) (by
    rw [spec_l6Lots.l0]
    repeat' first
    | with_reducible exact none_L
    | with_reducible refine letB_L (fun _ _ => ?_)
    | with_reducible refine bind_L (fun _ => ?_)
    | with_reducible refine ite_L (fun _ => ?_) (fun _ => ?_)
    | with_reducible refine drop_L (by first | assumption | omega | (simp only [*, List.length_set]; done)) ?_
    | with_reducible refine let_L ?_
    | with_reducible refine some_L ?_
    | with_reducible refine letT_L ?_
    | with_reducible refine ite_I (by omega) (fun _ => ?_) (fun _ => ?_)
    | rfl
    | simp only [Bool.decide_eq_true]
    | exact Lo.refl _
    | (refine Lo.eq ?_; simp only [Bool.decide_eq_true]; done)
    | refine ite_L (fun _ => ?_) (fun _ => ?_))
theorem h59_0 (k : Nat) (st : St Rw) (out : Out Rw) (h : C59_0 (k + 1) st = some out) : seg Try.prog O59 K59 k (body Try.f59) (kEnd Try.prog Try.f59.results.toList) [false, true, false, true] st = some out := by
  unfold C59_0 at h
  split at h
  · exact e59_0 _ _ _ _ _ _ _ _ out h
  · cases h
theorem e59_1 (k : Nat) (x5 : Int) (l0_0 : List S88) (l0_1 : List S90) (l0_2 : List S93) (l0_3 : List S96) (l0_4 : List S50) (b5_5 : Int) : Lo (seg Try.prog O59 K59 k (body Try.f59) (kEnd Try.prog Try.f59.results.toList) [false, true, false, true, true] ⟨108, 5, 6, [(1, .pt 5 0), (5, .w (.c (.sc (.i .i64 x5))))], [(0, .rows 0 (.e88 l0_0)), (1, .rows 0 (.e90 l0_1)), (2, .rows 0 (.e93 l0_2)), (3, .rows 0 (.e96 l0_3)), (4, .rows 0 (.e50 l0_4)), (5, .box 34 [.rw 0, .rw 1, .rw 2, .rw 3, .rw 4, .sc (.i .i64 b5_5)])]⟩) ((spec_l6Lots.l1 (k + 1) x5 l0_0 l0_1 l0_2 l0_3 l0_4 b5_5).bind fun r => some (o59 l0_0 l0_1 l0_2 l0_3 l0_4 r)) :=
  Lo.of (b := (if x5 < (l0_0.length : Int) then ((spec_l6Lots.l2 k x5 0 l0_0 l0_1 l0_2 l0_3 l0_4 b5_5).bind fun r => some (o59 l0_0 l0_1 l0_2 l0_3 l0_4 r)) else (some (o59 l0_0 l0_1 l0_2 l0_3 l0_4 true)))) (by kernel_rfl) (by
    rw [spec_l6Lots.l1]
    repeat' first
    | with_reducible exact none_L
    | with_reducible refine letB_L (fun _ _ => ?_)
    | with_reducible refine bind_L (fun _ => ?_)
    | with_reducible refine ite_L (fun _ => ?_) (fun _ => ?_)
    | with_reducible refine drop_L (by first | assumption | omega | (simp only [*, List.length_set]; done)) ?_
    | with_reducible refine let_L ?_
    | with_reducible refine some_L ?_
    | with_reducible refine letT_L ?_
    | with_reducible refine ite_I (by omega) (fun _ => ?_) (fun _ => ?_)
    | rfl
    | simp only [Bool.decide_eq_true]
    | exact Lo.refl _
    | (refine Lo.eq ?_; simp only [Bool.decide_eq_true]; done)
    | refine ite_L (fun _ => ?_) (fun _ => ?_))
theorem h59_1 (k : Nat) (st : St Rw) (out : Out Rw) (h : C59_1 (k + 1) st = some out) : seg Try.prog O59 K59 k (body Try.f59) (kEnd Try.prog Try.f59.results.toList) [false, true, false, true, true] st = some out := by
  unfold C59_1 at h
  split at h
  · exact e59_1 _ _ _ _ _ _ _ _ out h
  · cases h
theorem e59_2 (k : Nat) (x5 : Int) (x6 : Int) (l0_0 : List S88) (l0_1 : List S90) (l0_2 : List S93) (l0_3 : List S96) (l0_4 : List S50) (b5_5 : Int) : Lo (seg Try.prog O59 K59 k (body Try.f59) (kEnd Try.prog Try.f59.results.toList) [false, true, false, false, true, false, false, true, false, true, true] ⟨108, 5, 6, [(1, .pt 5 0), (5, .w (.c (.sc (.i .i64 x5)))), (6, .w (.c (.sc (.i .i64 x6))))], [(0, .rows 0 (.e88 l0_0)), (1, .rows 0 (.e90 l0_1)), (2, .rows 0 (.e93 l0_2)), (3, .rows 0 (.e96 l0_3)), (4, .rows 0 (.e50 l0_4)), (5, .box 34 [.rw 0, .rw 1, .rw 2, .rw 3, .rw 4, .sc (.i .i64 b5_5)])]⟩) ((spec_l6Lots.l2 (k + 1) x5 x6 l0_0 l0_1 l0_2 l0_3 l0_4 b5_5).bind fun r => some (o59 l0_0 l0_1 l0_2 l0_3 l0_4 r)) :=
  Lo.of (b := (if x6 < (l0_1.length : Int) then (if 0 ≤ x5 then (if x5 < (l0_0.length : Int) then (if (rd_T88 l0_0 x5).f1 = 1 then (if 0 ≤ x6 then (if x6 < (l0_1.length : Int) then ((spec_l6Lots.j3 k x5 x6 (decide ((rd_T90 l0_1 x6).f1 = 2)) l0_0 l0_1 l0_2 l0_3 l0_4 b5_5).bind fun r => some (o59 l0_0 l0_1 l0_2 l0_3 l0_4 r)) else none) else none) else ((spec_l6Lots.j3 k x5 x6 false l0_0 l0_1 l0_2 l0_3 l0_4 b5_5).bind fun r => some (o59 l0_0 l0_1 l0_2 l0_3 l0_4 r))) else none) else none) else ((spec_l6Lots.l1 k (RowKit.wrap64 (x5 + 1)) l0_0 l0_1 l0_2 l0_3 l0_4 b5_5).bind fun r => some (o59 l0_0 l0_1 l0_2 l0_3 l0_4 r)))) (by kernel_rfl) (by
    rw [spec_l6Lots.l2]
    repeat' first
    | with_reducible exact none_L
    | with_reducible refine letB_L (fun _ _ => ?_)
    | with_reducible refine bind_L (fun _ => ?_)
    | with_reducible refine ite_L (fun _ => ?_) (fun _ => ?_)
    | with_reducible refine drop_L (by first | assumption | omega | (simp only [*, List.length_set]; done)) ?_
    | with_reducible refine let_L ?_
    | with_reducible refine some_L ?_
    | with_reducible refine letT_L ?_
    | with_reducible refine ite_I (by omega) (fun _ => ?_) (fun _ => ?_)
    | rfl
    | simp only [Bool.decide_eq_true]
    | exact Lo.refl _
    | (refine Lo.eq ?_; simp only [Bool.decide_eq_true]; done)
    | refine ite_L (fun _ => ?_) (fun _ => ?_))
theorem h59_2 (k : Nat) (st : St Rw) (out : Out Rw) (h : C59_2 (k + 1) st = some out) : seg Try.prog O59 K59 k (body Try.f59) (kEnd Try.prog Try.f59.results.toList) [false, true, false, false, true, false, false, true, false, true, true] st = some out := by
  unfold C59_2 at h
  split at h
  · exact e59_2 _ _ _ _ _ _ _ _ _ out h
  · cases h
theorem e59_3 (k : Nat) (x5 : Int) (x6 : Int) (x71 : Bool) (l0_0 : List S88) (l0_1 : List S90) (l0_2 : List S93) (l0_3 : List S96) (l0_4 : List S50) (b5_5 : Int) : Lo (seg Try.prog O59 K59 k (body Try.f59) (kEnd Try.prog Try.f59.results.toList) [true, false, false, true, false, false, true, false, false, true, false, false, true, false, true, true] ⟨108, 5, 6, [(1, .pt 5 0), (5, .w (.c (.sc (.i .i64 x5)))), (6, .w (.c (.sc (.i .i64 x6)))), (71, .w (.c (.sc (.b x71))))], [(0, .rows 0 (.e88 l0_0)), (1, .rows 0 (.e90 l0_1)), (2, .rows 0 (.e93 l0_2)), (3, .rows 0 (.e96 l0_3)), (4, .rows 0 (.e50 l0_4)), (5, .box 34 [.rw 0, .rw 1, .rw 2, .rw 3, .rw 4, .sc (.i .i64 b5_5)])]⟩) ((spec_l6Lots.j3 (k + 1) x5 x6 x71 l0_0 l0_1 l0_2 l0_3 l0_4 b5_5).bind fun r => some (o59 l0_0 l0_1 l0_2 l0_3 l0_4 r)) :=
  Lo.of (b := (if x71 = true then (if 0 ≤ x5 then (if x5 < (l0_0.length : Int) then (if 0 ≤ x6 then (if x6 < (l0_1.length : Int) then ((spec_l5Split.f k l0_3 (rd_T88 l0_0 x5).f0 (rd_T90 l0_1 x6).f0).bind fun r10 => (if 0 ≤ x5 then (if x5 < (l0_0.length : Int) then (if 0 ≤ x6 then (if x6 < (l0_1.length : Int) then ((spec_l5Qty.f k r10.1).bind fun r11 => ((spec_l4Of.f k l0_2 (rd_T88 l0_0 x5).f0 (rd_T90 l0_1 x6).f0).bind fun r12 => (if r11 = r12 then ((spec_l6Lots.l2 k x5 (RowKit.wrap64 (x6 + 1)) l0_0 l0_1 l0_2 l0_3 l0_4 b5_5).bind fun r => some (o59 l0_0 l0_1 l0_2 l0_3 l0_4 r)) else (some (o59 l0_0 l0_1 l0_2 l0_3 l0_4 false))))) else none) else none) else none) else none)) else none) else none) else none) else none) else ((spec_l6Lots.l2 k x5 (RowKit.wrap64 (x6 + 1)) l0_0 l0_1 l0_2 l0_3 l0_4 b5_5).bind fun r => some (o59 l0_0 l0_1 l0_2 l0_3 l0_4 r)))) (by kernel_rfl) (by
    rw [spec_l6Lots.j3]
    repeat' first
    | with_reducible exact none_L
    | with_reducible refine letB_L (fun _ _ => ?_)
    | with_reducible refine bind_L (fun _ => ?_)
    | with_reducible refine ite_L (fun _ => ?_) (fun _ => ?_)
    | with_reducible refine drop_L (by first | assumption | omega | (simp only [*, List.length_set]; done)) ?_
    | with_reducible refine let_L ?_
    | with_reducible refine some_L ?_
    | with_reducible refine letT_L ?_
    | with_reducible refine ite_I (by omega) (fun _ => ?_) (fun _ => ?_)
    | rfl
    | simp only [Bool.decide_eq_true]
    | exact Lo.refl _
    | (refine Lo.eq ?_; simp only [Bool.decide_eq_true]; done)
    | refine ite_L (fun _ => ?_) (fun _ => ?_))
theorem h59_3 (k : Nat) (st : St Rw) (out : Out Rw) (h : C59_3 (k + 1) st = some out) : seg Try.prog O59 K59 k (body Try.f59) (kEnd Try.prog Try.f59.results.toList) [true, false, false, true, false, false, true, false, false, true, false, false, true, false, true, true] st = some out := by
  unfold C59_3 at h
  split at h
  · exact e59_3 _ _ _ _ _ _ _ _ _ _ out h
  · cases h
theorem z59_ok : ∀ c ∈ K59, ∀ st, c.f 0 st = none := by
  intro c hc st
  simp only [K59, List.mem_cons, List.not_mem_nil, or_false] at hc
  rcases hc with rfl | rfl | rfl | rfl
  · show C59_0 0 st = none; unfold C59_0; split <;> rfl
  · show C59_1 0 st = none; unfold C59_1; split <;> rfl
  · show C59_2 0 st = none; unfold C59_2; split <;> rfl
  · show C59_3 0 st = none; unfold C59_3; split <;> rfl
theorem h59_ok : ∀ c ∈ K59, ∀ k st out, c.f (k + 1) st = some out → seg Try.prog O59 K59 k (body Try.f59) (kEnd Try.prog Try.f59.results.toList) c.p st = some out := by
  intro c hc k st out h
  simp only [K59, List.mem_cons, List.not_mem_nil, or_false] at hc
  rcases hc with rfl | rfl | rfl | rfl
  · exact h59_0 k st out h
  · exact h59_1 k st out h
  · exact h59_2 k st out h
  · exact h59_3 k st out h
theorem g59 (k : Nat) (l0_0 : List (S88)) (l0_1 : List (S90)) (l0_2 : List (S93)) (l0_3 : List (S96)) (l0_4 : List (S50)) (a0_5 : Int) (r : Bool) (h : spec_l6Lots.f k l0_0 l0_1 l0_2 l0_3 l0_4 a0_5 = some r) : Good Try.prog 59 [.w (.ag [.rw 0, .rw 1, .rw 2, .rw 3, .rw 4, .sc (.i .i64 a0_5)])] [.rows 0 (.e88 l0_0), .rows 0 (.e90 l0_1), .rows 0 (.e93 l0_2), .rows 0 (.e96 l0_3), .rows 0 (.e50 l0_4)] (o59 l0_0 l0_1 l0_2 l0_3 l0_4 r) := by
  refine fn_ok (k := k) O59_ok mixed Try.func59 (root := body Try.f59) (by kernel_rfl) z59_ok h59_ok ?_
  refine Lo.of (b := ((spec_l6Lots.l0 k 0 l0_0 l0_1 l0_2 l0_3 l0_4 a0_5).bind fun r => some (o59 l0_0 l0_1 l0_2 l0_3 l0_4 r))) (c := (spec_l6Lots.f k l0_0 l0_1 l0_2 l0_3 l0_4 a0_5).bind fun r => some (o59 l0_0 l0_1 l0_2 l0_3 l0_4 r)) (by kernel_rfl) ?_ _ (by rw [h]; rfl)
  · unfold spec_l6Lots.f
    repeat' first
    | with_reducible exact none_L
    | with_reducible refine letB_L (fun _ _ => ?_)
    | with_reducible refine bind_L (fun _ => ?_)
    | with_reducible refine ite_L (fun _ => ?_) (fun _ => ?_)
    | with_reducible refine drop_L (by first | assumption | omega | (simp only [*, List.length_set]; done)) ?_
    | with_reducible refine let_L ?_
    | with_reducible refine some_L ?_
    | with_reducible refine letT_L ?_
    | with_reducible refine ite_I (by omega) (fun _ => ?_) (fun _ => ?_)
    | rfl
    | simp only [Bool.decide_eq_true]
    | exact Lo.refl _
    | (refine Lo.eq ?_; simp only [Bool.decide_eq_true]; done)
    | refine ite_L (fun _ => ?_) (fun _ => ?_)
theorem d59 : Sound Try.prog ⟨59, false, Q59⟩ := sound_of ⟨_, Try.func59, by kernel_rfl, by kernel_rfl⟩ fun k args hp Z K z h => by
  unfold Q59 at h
  split at h
  · obtain ⟨r, hr, hK⟩ := Option.bind_eq_some_iff.1 h
    exact ⟨_, hK, g59 k _ _ _ _ _ _ r hr⟩
  · cases h
def o19 (l0_0 : List S88) (l0_1 : List S90) (l0_2 : List S93) (l0_3 : List S96) (l0_4 : List S50) (r : Bool) : Out Rw := ⟨[.c (.sc (.b r))], [.rows 0 (.e88 l0_0), .rows 0 (.e90 l0_1), .rows 0 (.e93 l0_2), .rows 0 (.e96 l0_3), .rows 0 (.e50 l0_4)]⟩
def Q19 : Mean Rw := fun k a h Z K => match a, h with
  | [.w (.ag [.rw 0, .rw 1, .rw 2, .rw 3, .rw 4, .sc (.i .i64 a0_5)])], [.rows 0 (.e88 l0_0), .rows 0 (.e90 l0_1), .rows 0 (.e93 l0_2), .rows 0 (.e96 l0_3), .rows 0 (.e50 l0_4)] => (spec_BooksOk.f k l0_0 l0_1 l0_2 l0_3 l0_4 a0_5).bind fun r => K (o19 l0_0 l0_1 l0_2 l0_3 l0_4 r)
  | _, _ => none
def O19 : List (Cal Rw) := [⟨54, false, Q54⟩, ⟨55, false, Q55⟩, ⟨56, false, Q56⟩, ⟨57, false, Q57⟩, ⟨9, false, Q9⟩, ⟨32, false, Q32⟩, ⟨58, false, Q58⟩, ⟨59, false, Q59⟩, ⟨60, false, Q60⟩, ⟨61, false, Q61⟩]
theorem O19_ok : ∀ c ∈ O19, Sound Try.prog c := by
  intro c hc
  simp only [O19, List.mem_cons, List.not_mem_nil, or_false] at hc
  rcases hc with rfl | rfl | rfl | rfl | rfl | rfl | rfl | rfl | rfl | rfl
  · exact d54
  · exact d55
  · exact d56
  · exact d57
  · exact d9
  · exact d32
  · exact d58
  · exact d59
  · exact d60
  · exact d61
def C19_0 : Nat → St Rw → Option (Out Rw) := fun k st => match st with
  | ⟨91, 5, 6, [(1, .pt 5 0), (48, .w (.c (.sc (.b x48))))], [(0, .rows 0 (.e88 l0_0)), (1, .rows 0 (.e90 l0_1)), (2, .rows 0 (.e93 l0_2)), (3, .rows 0 (.e96 l0_3)), (4, .rows 0 (.e50 l0_4)), (5, .box 34 [.rw 0, .rw 1, .rw 2, .rw 3, .rw 4, .sc (.i .i64 b5_5)])]⟩ => (spec_BooksOk.j0 k x48 l0_0 l0_1 l0_2 l0_3 l0_4 b5_5).bind fun r => some (o19 l0_0 l0_1 l0_2 l0_3 l0_4 r)
  | _ => none
def C19_1 : Nat → St Rw → Option (Out Rw) := fun k st => match st with
  | ⟨91, 5, 6, [(1, .pt 5 0), (3, .w (.c (.sc (.i .i64 x3))))], [(0, .rows 0 (.e88 l0_0)), (1, .rows 0 (.e90 l0_1)), (2, .rows 0 (.e93 l0_2)), (3, .rows 0 (.e96 l0_3)), (4, .rows 0 (.e50 l0_4)), (5, .box 34 [.rw 0, .rw 1, .rw 2, .rw 3, .rw 4, .sc (.i .i64 b5_5)])]⟩ => (spec_BooksOk.l0 k x3 l0_0 l0_1 l0_2 l0_3 l0_4 b5_5).bind fun r => some (o19 l0_0 l0_1 l0_2 l0_3 l0_4 r)
  | _ => none
def K19 : List (Cut Rw) := [⟨[true, false, true], [1, 48], C19_0⟩, ⟨[false, true, false, true, true], [1, 3], C19_1⟩]
theorem e19_0 (k : Nat) (x48 : Bool) (l0_0 : List S88) (l0_1 : List S90) (l0_2 : List S93) (l0_3 : List S96) (l0_4 : List S50) (b5_5 : Int) : Lo (seg Try.prog O19 K19 k (body Try.f19) (kEnd Try.prog Try.f19.results.toList) [true, false, true] ⟨91, 5, 6, [(1, .pt 5 0), (48, .w (.c (.sc (.b x48))))], [(0, .rows 0 (.e88 l0_0)), (1, .rows 0 (.e90 l0_1)), (2, .rows 0 (.e93 l0_2)), (3, .rows 0 (.e96 l0_3)), (4, .rows 0 (.e50 l0_4)), (5, .box 34 [.rw 0, .rw 1, .rw 2, .rw 3, .rw 4, .sc (.i .i64 b5_5)])]⟩) ((spec_BooksOk.j0 (k + 1) x48 l0_0 l0_1 l0_2 l0_3 l0_4 b5_5).bind fun r => some (o19 l0_0 l0_1 l0_2 l0_3 l0_4 r)) :=
  Lo.of (b := (if x48 = true then (some (o19 l0_0 l0_1 l0_2 l0_3 l0_4 false)) else ((spec_BooksOk.l0 k 0 l0_0 l0_1 l0_2 l0_3 l0_4 b5_5).bind fun r => some (o19 l0_0 l0_1 l0_2 l0_3 l0_4 r)))) (by kernel_rfl) (by
    rw [spec_BooksOk.j0]
    repeat' first
    | with_reducible exact none_L
    | with_reducible refine letB_L (fun _ _ => ?_)
    | with_reducible refine bind_L (fun _ => ?_)
    | with_reducible refine ite_L (fun _ => ?_) (fun _ => ?_)
    | with_reducible refine drop_L (by first | assumption | omega | (simp only [*, List.length_set]; done)) ?_
    | with_reducible refine let_L ?_
    | with_reducible refine some_L ?_
    | with_reducible refine letT_L ?_
    | with_reducible refine ite_I (by omega) (fun _ => ?_) (fun _ => ?_)
    | rfl
    | simp only [Bool.decide_eq_true]
    | exact Lo.refl _
    | (refine Lo.eq ?_; simp only [Bool.decide_eq_true]; done)
    | refine ite_L (fun _ => ?_) (fun _ => ?_))
theorem h19_0 (k : Nat) (st : St Rw) (out : Out Rw) (h : C19_0 (k + 1) st = some out) : seg Try.prog O19 K19 k (body Try.f19) (kEnd Try.prog Try.f19.results.toList) [true, false, true] st = some out := by
  unfold C19_0 at h
  split at h
  · exact e19_0 _ _ _ _ _ _ _ _ out h
  · cases h
theorem e19_1 (k : Nat) (x3 : Int) (l0_0 : List S88) (l0_1 : List S90) (l0_2 : List S93) (l0_3 : List S96) (l0_4 : List S50) (b5_5 : Int) : Lo (seg Try.prog O19 K19 k (body Try.f19) (kEnd Try.prog Try.f19.results.toList) [false, true, false, true, true] ⟨91, 5, 6, [(1, .pt 5 0), (3, .w (.c (.sc (.i .i64 x3))))], [(0, .rows 0 (.e88 l0_0)), (1, .rows 0 (.e90 l0_1)), (2, .rows 0 (.e93 l0_2)), (3, .rows 0 (.e96 l0_3)), (4, .rows 0 (.e50 l0_4)), (5, .box 34 [.rw 0, .rw 1, .rw 2, .rw 3, .rw 4, .sc (.i .i64 b5_5)])]⟩) ((spec_BooksOk.l0 (k + 1) x3 l0_0 l0_1 l0_2 l0_3 l0_4 b5_5).bind fun r => some (o19 l0_0 l0_1 l0_2 l0_3 l0_4 r)) :=
  Lo.of (b := (if x3 < (l0_4.length : Int) then (if 0 ≤ x3 then (if x3 < (l0_4.length : Int) then ((spec_AccountKind.f k l0_0 (rd_T50 l0_4 x3).f1).bind fun r8 => (if r8 = 1 then ((spec_AccountKind.f k l0_0 (rd_T50 l0_4 x3).f2).bind fun r9 => (if r9 = 1 then ((spec_InstrKind.f k l0_1 (rd_T50 l0_4 x3).f3).bind fun r10 => (if r10 = 2 then ((spec_InstrKind.f k l0_1 (rd_T50 l0_4 x3).f5).bind fun r11 => (if r11 = 1 then ((spec_BooksOk.l0 k (RowKit.wrap64 (x3 + 1)) l0_0 l0_1 l0_2 l0_3 l0_4 b5_5).bind fun r => some (o19 l0_0 l0_1 l0_2 l0_3 l0_4 r)) else (some (o19 l0_0 l0_1 l0_2 l0_3 l0_4 false)))) else (some (o19 l0_0 l0_1 l0_2 l0_3 l0_4 false)))) else (some (o19 l0_0 l0_1 l0_2 l0_3 l0_4 false)))) else (some (o19 l0_0 l0_1 l0_2 l0_3 l0_4 false)))) else none) else none) else (some (o19 l0_0 l0_1 l0_2 l0_3 l0_4 true)))) (by kernel_rfl) (by
    rw [spec_BooksOk.l0]
    repeat' first
    | with_reducible exact none_L
    | with_reducible refine letB_L (fun _ _ => ?_)
    | with_reducible refine bind_L (fun _ => ?_)
    | with_reducible refine ite_L (fun _ => ?_) (fun _ => ?_)
    | with_reducible refine drop_L (by first | assumption | omega | (simp only [*, List.length_set]; done)) ?_
    | with_reducible refine let_L ?_
    | with_reducible refine some_L ?_
    | with_reducible refine letT_L ?_
    | with_reducible refine ite_I (by omega) (fun _ => ?_) (fun _ => ?_)
    | rfl
    | simp only [Bool.decide_eq_true]
    | exact Lo.refl _
    | (refine Lo.eq ?_; simp only [Bool.decide_eq_true]; done)
    | refine ite_L (fun _ => ?_) (fun _ => ?_))
theorem h19_1 (k : Nat) (st : St Rw) (out : Out Rw) (h : C19_1 (k + 1) st = some out) : seg Try.prog O19 K19 k (body Try.f19) (kEnd Try.prog Try.f19.results.toList) [false, true, false, true, true] st = some out := by
  unfold C19_1 at h
  split at h
  · exact e19_1 _ _ _ _ _ _ _ _ out h
  · cases h
theorem z19_ok : ∀ c ∈ K19, ∀ st, c.f 0 st = none := by
  intro c hc st
  simp only [K19, List.mem_cons, List.not_mem_nil, or_false] at hc
  rcases hc with rfl | rfl
  · show C19_0 0 st = none; unfold C19_0; split <;> rfl
  · show C19_1 0 st = none; unfold C19_1; split <;> rfl
theorem h19_ok : ∀ c ∈ K19, ∀ k st out, c.f (k + 1) st = some out → seg Try.prog O19 K19 k (body Try.f19) (kEnd Try.prog Try.f19.results.toList) c.p st = some out := by
  intro c hc k st out h
  simp only [K19, List.mem_cons, List.not_mem_nil, or_false] at hc
  rcases hc with rfl | rfl
  · exact h19_0 k st out h
  · exact h19_1 k st out h
theorem g19 (k : Nat) (l0_0 : List (S88)) (l0_1 : List (S90)) (l0_2 : List (S93)) (l0_3 : List (S96)) (l0_4 : List (S50)) (a0_5 : Int) (r : Bool) (h : spec_BooksOk.f k l0_0 l0_1 l0_2 l0_3 l0_4 a0_5 = some r) : Good Try.prog 19 [.w (.ag [.rw 0, .rw 1, .rw 2, .rw 3, .rw 4, .sc (.i .i64 a0_5)])] [.rows 0 (.e88 l0_0), .rows 0 (.e90 l0_1), .rows 0 (.e93 l0_2), .rows 0 (.e96 l0_3), .rows 0 (.e50 l0_4)] (o19 l0_0 l0_1 l0_2 l0_3 l0_4 r) := by
  refine fn_ok (k := k) O19_ok mixed Try.func19 (root := body Try.f19) (by kernel_rfl) z19_ok h19_ok ?_
  refine Lo.of (b := ((spec_AccountsOk.f k l0_0).bind fun r7 => (if r7 = true then ((spec_InstrsOk.f k l0_1).bind fun r8 => (if r8 = true then ((spec_BalsOk.f k l0_2).bind fun r9 => (if r9 = true then ((spec_LotsOk.f k l0_3).bind fun r10 => (if r10 = true then ((spec_TradesOk.f k l0_4).bind fun r11 => (if r11 = true then ((spec_l1In.f a0_5 0 1000000000).bind fun r12 => (if r12 = true then ((spec_l6Bals.f k l0_0 l0_1 l0_2 l0_3 l0_4 a0_5).bind fun r13 => (if r13 = true then ((spec_l6Lots.f k l0_0 l0_1 l0_2 l0_3 l0_4 a0_5).bind fun r14 => ((spec_BooksOk.j0 k (!decide (r14 = true)) l0_0 l0_1 l0_2 l0_3 l0_4 a0_5).bind fun r => some (o19 l0_0 l0_1 l0_2 l0_3 l0_4 r))) else ((spec_BooksOk.j0 k true l0_0 l0_1 l0_2 l0_3 l0_4 a0_5).bind fun r => some (o19 l0_0 l0_1 l0_2 l0_3 l0_4 r)))) else ((spec_BooksOk.j0 k true l0_0 l0_1 l0_2 l0_3 l0_4 a0_5).bind fun r => some (o19 l0_0 l0_1 l0_2 l0_3 l0_4 r)))) else ((spec_BooksOk.j0 k true l0_0 l0_1 l0_2 l0_3 l0_4 a0_5).bind fun r => some (o19 l0_0 l0_1 l0_2 l0_3 l0_4 r)))) else ((spec_BooksOk.j0 k true l0_0 l0_1 l0_2 l0_3 l0_4 a0_5).bind fun r => some (o19 l0_0 l0_1 l0_2 l0_3 l0_4 r)))) else ((spec_BooksOk.j0 k true l0_0 l0_1 l0_2 l0_3 l0_4 a0_5).bind fun r => some (o19 l0_0 l0_1 l0_2 l0_3 l0_4 r)))) else ((spec_BooksOk.j0 k true l0_0 l0_1 l0_2 l0_3 l0_4 a0_5).bind fun r => some (o19 l0_0 l0_1 l0_2 l0_3 l0_4 r)))) else ((spec_BooksOk.j0 k true l0_0 l0_1 l0_2 l0_3 l0_4 a0_5).bind fun r => some (o19 l0_0 l0_1 l0_2 l0_3 l0_4 r))))) (c := (spec_BooksOk.f k l0_0 l0_1 l0_2 l0_3 l0_4 a0_5).bind fun r => some (o19 l0_0 l0_1 l0_2 l0_3 l0_4 r)) (by kernel_rfl) ?_ _ (by rw [h]; rfl)
  · unfold spec_BooksOk.f
    repeat' first
    | with_reducible exact none_L
    | with_reducible refine letB_L (fun _ _ => ?_)
    | with_reducible refine bind_L (fun _ => ?_)
    | with_reducible refine ite_L (fun _ => ?_) (fun _ => ?_)
    | with_reducible refine drop_L (by first | assumption | omega | (simp only [*, List.length_set]; done)) ?_
    | with_reducible refine let_L ?_
    | with_reducible refine some_L ?_
    | with_reducible refine letT_L ?_
    | with_reducible refine ite_I (by omega) (fun _ => ?_) (fun _ => ?_)
    | rfl
    | simp only [Bool.decide_eq_true]
    | exact Lo.refl _
    | (refine Lo.eq ?_; simp only [Bool.decide_eq_true]; done)
    | refine ite_L (fun _ => ?_) (fun _ => ?_)
theorem d19 : Sound Try.prog ⟨19, false, Q19⟩ := sound_of ⟨_, Try.func19, by kernel_rfl, by kernel_rfl⟩ fun k args hp Z K z h => by
  unfold Q19 at h
  split at h
  · obtain ⟨r, hr, hK⟩ := Option.bind_eq_some_iff.1 h
    exact ⟨_, hK, g19 k _ _ _ _ _ _ r hr⟩
  · cases h
end Go.Proofs.Ytmfgajbkcnlkcaa.AI
