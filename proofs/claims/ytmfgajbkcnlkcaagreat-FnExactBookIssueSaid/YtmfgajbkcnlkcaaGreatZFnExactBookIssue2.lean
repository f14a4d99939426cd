/- What the law FnExactBookIssue leans on, cut out of this repo's own texts by a program of this repo: plain functions, the walks that tie the Go calls to them, the law over lists and numbers, and the row. -/
import Derived.Test.YtmfgajbkcnlkcaaGreatZFnExactBookIssue1
import Derived.OrdersHeld
import Derived.Below
import Derived.KernelRfl
namespace Go.Proofs.YtmfgajbkcnlkcaaGreat.P
end Go.Proofs.YtmfgajbkcnlkcaaGreat.P
namespace Go.Proofs.YtmfgajbkcnlkcaaGreat.AI
set_option linter.all false
open Go Go.RowKit
section
variable {R : Type} [RowT R]
structure ArgsOK (P : Program) (w : World) (g : Nat → Value) (args : List V) (hp : List (Blk R)) : Prop where
  ids : ∀ v ∈ args, ∀ id ∈ idsV v, id < hp.length
  idB : ∀ (i : Nat) b, hp[i]? = some b → ∀ j ∈ idsB b, j < hp.length
  blk : ∀ (i : Nat) b, hp[i]? = some b → BlkOK P g w w.heap.size i b
  sep : ∀ (i : Nat) b (i' : Nat) b' n, hp[i]? = some b → hp[i']? = some b' → i ≠ i' → b.mut → HasB g i n b → ¬ HasB g i' n b'
  one : ∀ i, i < hp.length → (g i).oneCell' = true
  kind : ∀ (i : Nat) b, hp[i]? = some b → b.handed
  plain : ∀ v ∈ args, v ≠ .no ∧ EpOK P (number hp 0) v
def resC (g : Nat → Value) : List W → Value
  | [y] => concW g y
  | ys => .tuple (ys.map (concW g)).toArray
structure ResOK (P : Program) (w : World) (g : Nat → Value) (hp : List (Blk R)) (out : Out R) (c : Value) (w' : World) (g' : Nat → Value) : Prop where
  val : c = resC g' out.res
  keep : ∀ i, i < hp.length → g' i = g i
  ids : ∀ y ∈ out.res, ∀ id ∈ idsW y, id < out.hp.length
  idB : ∀ (i : Nat) b, out.hp[i]? = some b → ∀ j ∈ idsB b, j < out.hp.length
  blk : ∀ (i : Nat) b, out.hp[i]? = some b → BlkOK P g' w' w.heap.size i b
  sep : ∀ (i : Nat) b (i' : Nat) b' n, out.hp[i]? = some b → out.hp[i']? = some b' → i ≠ i' → b.mut → HasB g' i n b → ¬ HasB g' i' n b'
  old : ∀ (i : Nat) b, hp[i]? = some b → ∃ b1, out.hp[i]? = some b1 ∧ SameKind b b1
  new : ∀ (i : Nat) b, hp.length ≤ i → out.hp[i]? = some b → (∃ r, b = .rows 2 r) ∧ ∀ n, HasB g' i n b → w.heap.size ≤ n
  one : ∀ i, i < out.hp.length → (g' i).oneCell' = true
  frame : Fr w (fun n => ∃ (i : Nat) (b : Blk R), hp[i]? = some b ∧ b.mut ∧ HasB g i n b) w'
def Good (P : Program) (f : FuncId) (args : List V) (hp : List (Blk R)) (out : Out R) : Prop :=
  ∀ (w : World) (g : Nat → Value), ArgsOK P w g args hp → Calls P f (args.map (concV g)).toArray w fun e w' => ∃ c g', e = .returned c ∧ ResOK P w g hp out c w' g'
structure Sound (P : Program) (c : Cal R) : Prop where
  fn : ∃ fn, P.funcs[c.f]? = some fn ∧ (fn.name == "runtime.NumGoroutine") = false ∧ fn.body.isNone = false
  ok : ∀ (k : Nat) (args : List V) (hp : List (Blk R)) (Z : Type) (K : Out R → Option Z) (z : Z), c.sem k args hp Z K = some z → ∃ out, K out = some z ∧ Good P c.f args hp out
def seen (g : Nat → Value) (src : List Nat) (i : Nat) : Value := g ((src[i]?).getD 0)
theorem nodup_ok : ∀ {l : List Nat}, nodup l = true → l.Nodup
  | [], _ => List.nodup_nil
  | x :: l, h => by
    simp only [nodup, Bool.and_eq_true, Bool.not_eq_true', List.any_eq_false] at h
    exact List.nodup_cons.2 ⟨fun hm => by have := h.1 x hm; simp at this, nodup_ok h.2⟩
theorem packC_ok {g G : Nat → Value} : ∀ (cs ys : List C) (n : Nat) (ids : List Nat), packC cs n = some (ys, ids) → (∀ k x, ids[k]? = some x → G (n + k) = g x) →
    ys.map (conc G) = cs.map (conc g) ∧ (∀ j ∈ ys.flatMap idsC, n ≤ j ∧ j < n + ids.length) ∧ ys.length = cs.length ∧ (∀ x ∈ ids, x ∈ cs.flatMap idsC)
  | [], ys, n, ids, h, _ => by simp only [packC, Option.some.injEq, Prod.mk.injEq] at h; obtain ⟨rfl, rfl⟩ := h; simp
  | c :: cs, ys, n, ids, h, hG => by
    have step : ∀ (v : Sc), c.val = some v → idsC c = [] → (∃ ys' ids', packC cs n = some (ys', ids') ∧ ys = .sc v :: ys' ∧ ids = ids') → ys.map (conc G) = (c :: cs).map (conc g) ∧ (∀ j ∈ ys.flatMap idsC, n ≤ j ∧ j < n + ids.length) ∧ ys.length = (c :: cs).length ∧ (∀ x ∈ ids, x ∈ (c :: cs).flatMap idsC) := by
      rintro v hv hc ⟨ys', ids', hr, rfl, rfl⟩
      obtain ⟨h1, h2, h3, h4⟩ := packC_ok cs ys' n _ hr hG
      refine ⟨?_, by simpa [idsC] using h2, by simp [h3], fun x hx => by rw [List.flatMap_cons, hc]; exact h4 x hx⟩
      rw [List.map_cons, List.map_cons, h1, val_conc (g := g) hv]; rfl
    have fin : ∀ (v : Sc), c.val = some v → idsC c = [] → packC (c :: cs) n = (match c.val, packC cs n with
        | some v, some (cs, ids) => some (.sc v :: cs, ids)
        | _, _ => none) → ys.map (conc G) = (c :: cs).map (conc g) ∧ (∀ j ∈ ys.flatMap idsC, n ≤ j ∧ j < n + ids.length) ∧ ys.length = (c :: cs).length ∧ (∀ x ∈ ids, x ∈ (c :: cs).flatMap idsC) := by
      intro v hv hc e
      rw [h, hv] at e
      cases hr : packC cs n with
      | none => rw [hr] at e; simp at e
      | some p =>
        obtain ⟨ys', ids'⟩ := p
        rw [hr] at e
        simp only [Option.some.injEq, Prod.mk.injEq] at e
        exact step v hv hc ⟨ys', ids', hr, e.1, e.2⟩
    cases c with
    | rw id =>
      simp only [packC] at h
      split at h
      · rename_i ys' ids' hr
        simp only [Option.some.injEq, Prod.mk.injEq] at h; obtain ⟨rfl, rfl⟩ := h
        obtain ⟨h1, h2, h3, h4⟩ := packC_ok cs ys' (n + 1) ids' hr (fun k x hx => by have := hG (k + 1) x (by simpa using hx); rwa [show n + (k + 1) = n + 1 + k by omega] at this)
        refine ⟨?_, ?_, by simp [h3], ?_⟩
        · rw [List.map_cons, List.map_cons, h1]; simp only [conc]; rw [← hG 0 id (by simp)]; rfl
        · intro j hj
          simp only [List.flatMap_cons, idsC, List.singleton_append, List.mem_cons] at hj
          rcases hj with rfl | hj
          · simp
          · have := h2 j hj; simp only [List.length_cons]; omega
        · intro x hx
          simp only [List.mem_cons] at hx
          rcases hx with rfl | hx
          · simp [idsC]
          · simp only [List.flatMap_cons, List.mem_append]; exact .inr (h4 x hx)
      · simp at h
    | sc v => exact fin v rfl rfl rfl
    | kb b => exact fin (.b b) rfl rfl rfl
    | bo p i => exact fin (.b (@decide p i)) rfl rfl rfl
    | nb p i => exact fin (.b (!@decide p i)) rfl rfl rfl
def Handed (lent : Bool) : Blk R → Blk R → Prop
  | .rows k r, b' => ∃ k', b' = .rows k' r ∧ (k' = 0 ∨ k' = 1 ∧ k ≠ 0 ∧ lent = true)
  | _, _ => False
theorem lendAll_ok {st : St R} {lent : Bool} : ∀ (ids : List Nat) (bs : List (Blk R)), lendAll st lent ids = some bs → bs.length = ids.length ∧ ∀ (k : Nat) x, ids[k]? = some x → ∃ b b', get st.hp x = some b ∧ bs[k]? = some b' ∧ Handed lent b b'
  | [], bs, h => by simp only [lendAll, Option.some.injEq] at h; subst h; simp
  | id :: ids, bs, h => by
    simp only [lendAll] at h
    split at h
    · rename_i b hb
      split at h
      · rename_i b' bs' hl hr
        simp only [Option.some.injEq] at h; subst h
        obtain ⟨h1, h2⟩ := lendAll_ok ids bs' hr
        refine ⟨by simp [h1], fun k x hx => ?_⟩
        cases k with
        | zero =>
          simp only [List.getElem?_cons_zero, Option.some.injEq] at hx; subst hx
          refine ⟨b, b', hb, rfl, ?_⟩
          unfold lend at hl
          split at hl
          · rename_i k r
            cases lent with
            | false => simp only [cond_false, Option.some.injEq] at hl; subst hl; exact ⟨0, rfl, .inl rfl⟩
            | true =>
              simp only [cond_true] at hl
              split at hl
              · simp at hl
              · rename_i hk; simp only [Option.some.injEq] at hl; subst hl; exact ⟨1, rfl, .inr ⟨rfl, hk, rfl⟩⟩
          · simp at hl
        | succ k => simpa using h2 k x (by simpa using hx)
      · simp at h
    · simp at h
theorem own_ro {P : Program} [RowL P R] {g : Nat → Value} {w : World} {base base' id k : Nat} {r : R} (h : BlkOK P g w base id (.rows k r)) : BlkOK P g w base' id (.rows 0 r) := by
  cases k with
  | zero => exact h
  | succ k =>
    have hl := h.1
    rcases h.2 with ⟨hv, h0⟩ | ⟨b, cap, cur, hv, _, hh, h1, h2, _, ht⟩
    · refine ⟨none, 0, by rw [hv, h0], by omega, by omega, fun j u hu => ?_⟩
      have := flat_pos (P := P) hu; omega
    · refine ⟨some ⟨b, 0, none⟩, cap, hv, h1, Nat.le_trans h1 h2, fun j u hu => ⟨_, rfl, ?_⟩⟩
      rw [add_lit, cell_of_row w b _ cur _ _ hh]
      rw [← ht, List.getElem?_take] at hu
      split at hu
      · simpa using hu
      · simp at hu
theorem own_lent {P : Program} {g : Nat → Value} {w : World} {base base' id k : Nat} {r : R} (h : BlkOK P g w base id (.rows (k + 1) r)) : BlkOK P g w base' id (.rows 1 r) := by
  obtain ⟨h1, h2⟩ := h
  refine ⟨h1, ?_⟩
  rcases h2 with h2 | ⟨b, cap, cur, hv, _, h3⟩
  · exact .inl h2
  · exact .inr ⟨b, cap, cur, hv, by simp, h3⟩
def Given (P : Program) (g G : Nat → Value) (w : World) (N i x : Nat) (b b' : Blk R) : Prop :=
  (∀ base, BlkOK P G w base i b') ∧ b'.handed ∧ (∀ n, HasB G i n b' → HasB g x n b) ∧ (b'.mut → b.mut ∧ (∀ n, blkOf (g x) = some n → HasB G i n b')) ∧ (∀ j ∈ idsB b', j < N) ∧
    ((∃ k r k', b = .rows k r ∧ b' = .rows k' r) ∨ ∃ t cs cs', b = .box t cs ∧ b' = .box t cs')
theorem given_rows {P : Program} [RowL P R] {g G : Nat → Value} {w : World} {base N i x : Nat} {lent : Bool} {b b' : Blk R} (hb : BlkOK P g w base x b) (hG : G i = g x) (hh : Handed lent b b') : Given P g G w N i x b b' := by
  cases b with
  | rows k r =>
    obtain ⟨k', rfl, hk⟩ := hh
    have hbG : BlkOK P G w base i (.rows k r) := by
      cases k <;> simpa only [BlkOK, hG] using hb
    rcases hk with rfl | ⟨rfl, hk, _⟩
    · refine ⟨fun base' => own_ro hbG, trivial, fun n hn => ?_, fun hm => hm.elim, by simp [idsB], .inl ⟨k, r, 0, rfl, rfl⟩⟩
      obtain ⟨h1, h2⟩ := hn
      rw [hG] at h1
      cases k with
      | zero => exact ⟨h1, h2⟩
      | succ k => exact h1
    · cases k with
      | zero => exact absurd rfl hk
      | succ k =>
        refine ⟨fun base' => own_lent hbG, trivial, fun n hn => ?_, fun _ => ⟨trivial, fun n hn => ?_⟩, by simp [idsB], .inl ⟨_, r, 1, rfl, rfl⟩⟩
        · have : blkOf (G i) = some n := hn
          rw [hG] at this; exact this
        · show blkOf (G i) = some n
          rw [hG]; exact hn
  | box _ _ => exact hh.elim
  | dead => exact hh.elim
end
end Go.Proofs.YtmfgajbkcnlkcaaGreat.AI
namespace Go.Proofs.YtmfgajbkcnlkcaaGreat.AI
set_option linter.all false
open Go Go.RowKit
section
variable {R : Type} [RowT R] {P : Program} [RowL P R] {w0 : World} {L : Nat → Prop} {g0 : Nat → Value} {hp0 : List (Blk R)} {st st' : St R} {g G : Nat → Value} {a : Act} {w w' : World} {o : Oper}
def V.flatV : V → Prop
  | .w _ => True
  | .pt _ _ => True
  | _ => False
theorem packV_ok (h : Inv P w0 L g0 hp0 st g a w) {lent : Bool} {v v' : V} {n N : Nat} {bs : List (Blk R)} {ids : List Nat} (hp : packV st lent v n = some (v', bs, ids)) (hG : ∀ k x, ids[k]? = some x → G (n + k) = g x) (hN : n + ids.length ≤ N) :
    concV G v' = concV g v ∧ (∀ j ∈ idsV v', n ≤ j ∧ j < n + ids.length) ∧ bs.length = ids.length ∧ (∀ k x, ids[k]? = some x → ∃ b b', get st.hp x = some b ∧ bs[k]? = some b' ∧ Given P g G w N (n + k) x b b') ∧ v'.flatV := by
  have many : ∀ {lent : Bool} {ids : List Nat} {bs : List (Blk R)} (m : Nat), lendAll st lent ids = some bs → (∀ k x, ids[k]? = some x → G (m + k) = g x) → bs.length = ids.length ∧ (∀ k x, ids[k]? = some x → ∃ b b', get st.hp x = some b ∧ bs[k]? = some b' ∧ Given P g G w N (m + k) x b b') := by
    intro lent ids bs m hl hG
    obtain ⟨h1, h2⟩ := lendAll_ok ids bs hl
    refine ⟨h1, fun k x hx => ?_⟩
    obtain ⟨b, b', h3, h4, h5⟩ := h2 k x hx
    exact ⟨b, b', h3, h4, given_rows (h.heap.blk _ _ h3) (hG k x hx) h5⟩
  unfold packV at hp
  split at hp
  · rename_i x
    split at hp
    · rename_i y ids' hc
      split at hp
      · rename_i bs' hl
        simp only [Option.some.injEq, Prod.mk.injEq] at hp
        obtain ⟨rfl, rfl, rfl⟩ := hp
        obtain ⟨h1, h2, h3, h4⟩ := packC_ok [x] [y] n _ hc hG
        obtain ⟨h5, h6⟩ := many n hl hG
        refine ⟨?_, by simpa [idsV, idsW] using h2, h5, h6, trivial⟩
        simp only [List.map_cons, List.map_nil, List.cons.injEq, and_true] at h1
        exact h1
      · simp at hp
    · simp at hp
  · rename_i xs
    split at hp
    · rename_i ys ids' hc
      split at hp
      · rename_i bs' hl
        simp only [Option.some.injEq, Prod.mk.injEq] at hp
        obtain ⟨rfl, rfl, rfl⟩ := hp
        obtain ⟨h1, h2, h3, h4⟩ := packC_ok xs ys n _ hc hG
        obtain ⟨h5, h6⟩ := many n hl hG
        exact ⟨by simp only [concV, concW, h1], by simpa [idsV, idsW] using h2, h5, h6, trivial⟩
      · simp at hp
    · simp at hp
  · rename_i id
    split at hp
    · rename_i t cs hb
      split at hp
      · rename_i ys ids' hc
        split at hp
        · rename_i bs' hl
          simp only [Option.some.injEq, Prod.mk.injEq] at hp
          obtain ⟨rfl, rfl, rfl⟩ := hp
          have hG' : ∀ k x, ids'[k]? = some x → G (n + 1 + k) = g x := fun k x hx => by have := hG (k + 1) x (by simpa using hx); rwa [show n + (k + 1) = n + 1 + k by omega] at this
          have hG0 : G n = g id := hG 0 id (by simp)
          obtain ⟨h1, h2, h3, h4⟩ := packC_ok cs ys (n + 1) _ hc hG'
          obtain ⟨h5, h6⟩ := many (n + 1) hl hG'
          obtain ⟨b, hg, hh, hone⟩ := h.heap.blk _ _ hb
          refine ⟨by simp only [concV, hG0], by simp [idsV], by simp [h5], fun k x hx => ?_, trivial⟩
          cases k with
          | zero =>
            simp only [List.getElem?_cons_zero, Option.some.injEq] at hx
            subst hx
            refine ⟨_, _, hb, rfl, fun base => ⟨b, hG0.trans hg, by rw [h1]; exact hh, fun c hc' => ?_⟩, trivial, fun m hm => ?_, fun _ => ⟨trivial, fun m hm => ?_⟩, fun j hj => ?_, .inr ⟨t, cs, ys, rfl, rfl⟩⟩
            · have : conc G c ∈ cs.map (conc g) := by rw [← h1]; exact List.mem_map.2 ⟨c, hc', rfl⟩
              obtain ⟨c1, hc1, e⟩ := List.mem_map.1 this
              rw [← e]; exact hone c1 hc1
            · have : blkOf (G n) = some m := hm
              rw [hG0] at this; exact this
            · show blkOf (G n) = some m
              rw [hG0]; exact hm
            · have := h2 j (by simpa [idsB] using hj)
              simp only [List.length_cons] at hN; omega
          | succ k =>
            obtain ⟨b1, b2, e1, e2, e3⟩ := h6 k x (by simpa using hx)
            exact ⟨b1, b2, e1, by simpa using e2, by rw [show n + (k + 1) = n + 1 + k by omega]; exact e3⟩
        · simp at hp
      · simp at hp
    · simp at hp
  · simp at hp
theorem packV_no {lent : Bool} {v v' : V} {n : Nat} {bs : List (Blk R)} {ids : List Nat} (hp : packV st lent v n = some (v', bs, ids)) : v ≠ .no := by
  rintro rfl; simp [packV] at hp
theorem pack_ok (h : Inv P w0 L g0 hp0 st g a w) {lent : Bool} {N : Nat} : ∀ (xs : List Operand) (n : Nat) (vs : List V) (bs : List (Blk R)) (ids : List Nat), pack st lent xs n = some (vs, bs, ids) → (∀ k x, ids[k]? = some x → G (n + k) = g x) → n + ids.length ≤ N →
    vs.map (concV G) = xs.map a.eval ∧ (∀ v ∈ vs, (∀ j ∈ idsV v, j < N) ∧ v.flatV) ∧ bs.length = ids.length ∧ (∀ k x, ids[k]? = some x → ∃ b b', get st.hp x = some b ∧ bs[k]? = some b' ∧ Given P g G w N (n + k) x b b')
  | [], n, vs, bs, ids, hp, _, _ => by
    simp only [pack, Option.some.injEq, Prod.mk.injEq] at hp
    obtain ⟨rfl, rfl, rfl⟩ := hp
    simp
  | x :: xs, n, vs, bs, ids, hp, hG, hN => by
    simp only [pack] at hp
    split at hp
    · rename_i v bs1 ids1 hv
      split at hp
      · rename_i vs2 bs2 ids2 hr
        simp only [Option.some.injEq, Prod.mk.injEq] at hp
        obtain ⟨rfl, rfl, rfl⟩ := hp
        rw [List.length_append] at hN
        have hG1 : ∀ k x, ids1[k]? = some x → G (n + k) = g x := fun k x hx => hG k x (by
          rw [List.getElem?_append_left]; exact hx
          rcases Nat.lt_or_ge k ids1.length with q | q
          · exact q
          · rw [List.getElem?_eq_none q] at hx; simp at hx)
        have hG2 : ∀ k x, ids2[k]? = some x → G (n + ids1.length + k) = g x := fun k x hx => by
          have := hG (ids1.length + k) x (by rw [List.getElem?_append_right (by omega), show ids1.length + k - ids1.length = k by omega]; exact hx)
          rwa [← Nat.add_assoc] at this
        obtain ⟨h1, h2, h3, h4, h5⟩ := packV_ok (N := N) h hv hG1 (by omega)
        obtain ⟨k1, k2, k3, k4⟩ := pack_ok (N := N) h xs _ vs2 bs2 ids2 hr hG2 (by omega)
        have hev := h.ev (x := x) (packV_no hv)
        refine ⟨by rw [List.map_cons, List.map_cons, k1, h1, hev.1], fun u hu => ?_, by simp [h3, k3], fun k y hy => ?_⟩
        · rcases List.mem_cons.1 hu with rfl | hu
          · exact ⟨fun j hj => by have := h2 j hj; omega, h5⟩
          · exact k2 u hu
        · rcases Nat.lt_or_ge k ids1.length with q | q
          · rw [List.getElem?_append_left q] at hy
            obtain ⟨b, b', e1, e2, e3⟩ := h4 k y hy
            exact ⟨b, b', e1, by rw [List.getElem?_append_left (by omega)]; exact e2, e3⟩
          · rw [List.getElem?_append_right q] at hy
            obtain ⟨b, b', e1, e2, e3⟩ := k4 _ y hy
            exact ⟨b, b', e1, by rw [List.getElem?_append_right (by omega), h3]; exact e2, by rw [show n + k = n + ids1.length + (k - ids1.length) by omega]; exact e3⟩
      · simp at hp
    · simp at hp
structure Packed (P : Program) (st : St R) (g G : Nat → Value) (w : World) (vs : List V) (bs : List (Blk R)) (src : List Nat) : Prop where
  len : bs.length = src.length
  name : ∀ (k x : Nat), src[k]? = some x → G k = g x
  at_ : ∀ (k x : Nat), src[k]? = some x → ∃ b b', get st.hp x = some b ∧ bs[k]? = some b' ∧ Given P g G w src.length k x b b'
  nd : src.Nodup
  args : ArgsOK P w G vs bs
theorem packed (h : Inv P w0 L g0 hp0 st g a w) {lent : Bool} {xs : List Operand} {vs : List V} {bs : List (Blk R)} {src : List Nat} (hp : pack st lent xs 0 = some (vs, bs, src)) (hn : nodup src = true) :
    vs.map (concV (seen g src)) = xs.map a.eval ∧ Packed P st g (seen g src) w vs bs src := by
  have hG : ∀ (k x : Nat), src[k]? = some x → seen g src k = g x := fun k x hx => by simp [seen, hx]
  obtain ⟨h1, h2, h3, h4⟩ := pack_ok (G := seen g src) (N := src.length) h xs 0 vs bs src hp (fun k x hx => by rw [Nat.zero_add]; exact hG k x hx) (by omega)
  simp only [Nat.zero_add] at h4
  have hnd := nodup_ok hn
  have back : ∀ (i : Nat) b', bs[i]? = some b' → ∃ x b, src[i]? = some x ∧ get st.hp x = some b ∧ Given P g (seen g src) w src.length i x b b' := by
    intro i b' hb'
    have hi : i < src.length := by
      rcases Nat.lt_or_ge i bs.length with q | q
      · omega
      · rw [List.getElem?_eq_none q] at hb'; simp at hb'
    obtain ⟨b, b2, e1, e2, e3⟩ := h4 i _ (List.getElem?_eq_getElem hi)
    rw [hb'] at e2; injection e2 with e2; subst e2
    exact ⟨_, b, List.getElem?_eq_getElem hi, e1, e3⟩
  refine ⟨h1, h3, hG, h4, hnd, ?_⟩
  refine ⟨fun v hv id hid => by rw [h3]; exact (h2 v hv).1 id hid, fun i b' hb' j hj => ?_, fun i b' hb' => ?_, fun i b1 i' b1' n hb hb' hne hm hh => ?_, fun i hi => ?_, fun i b' hb' => ?_, fun v hv => ?_⟩
  · obtain ⟨x, b, e1, e2, e3⟩ := back i b' hb'
    rw [h3]; exact e3.2.2.2.2.1 j hj
  · obtain ⟨x, b, e1, e2, e3⟩ := back i b' hb'
    exact e3.1 _
  · obtain ⟨x, b, e1, e2, e3⟩ := back i b1 hb
    obtain ⟨x', b', f1, f2, f3⟩ := back i' b1' hb'
    intro hh'
    have hxx : x ≠ x' := by
      rintro rfl
      have hi : i < src.length := by
        rcases Nat.lt_or_ge i src.length with q | q
        · exact q
        · rw [List.getElem?_eq_none q] at e1; simp at e1
      exact hne ((List.getElem?_inj hi hnd).1 (e1.trans f1.symm))
    exact h.heap.sep x b x' b' n e2 f2 hxx (e3.2.2.2.1 hm).1 (e3.2.2.1 n hh) (f3.2.2.1 n hh')
  · rw [h3] at hi
    rw [hG i _ (List.getElem?_eq_getElem hi)]
    obtain ⟨b, b2, e1, _, _⟩ := h4 i _ (List.getElem?_eq_getElem hi)
    exact h.heap.one _ (h.heap.idH _ _ e1)
  · obtain ⟨x, b, e1, e2, e3⟩ := back i b' hb'
    exact e3.2.1
  · obtain ⟨_, hf⟩ := h2 v hv
    cases v <;> first | exact hf.elim | exact ⟨by simp, trivial⟩
end
end Go.Proofs.YtmfgajbkcnlkcaaGreat.AI
namespace Go.Proofs.YtmfgajbkcnlkcaaGreat.AI
set_option linter.all false
open Go Go.RowKit
section
variable {R : Type} [RowT R]
theorem back_lt {src : List Nat} {nx i x : Nat} (h : src[i]? = some x) : back src nx i = x := by simp [back, nth_eq, h]
theorem back_ge {src : List Nat} {nx i : Nat} (h : src.length ≤ i) : back src nx i = nx + (i - src.length) := by simp [back, nth_eq, List.getElem?_eq_none h]
def Taken (src : List Nat) (nx : Nat) (hp hp' : List (Nat × Blk R)) (id : Nat) (o : Option (Blk R)) (b : Blk R) : Prop :=
  match o, b with
  | some (.rows 0 _), .rows 0 _ => get hp' id = get hp id
  | some (.rows 1 _), .rows 1 r => ∃ k r0, get hp id = some (.rows k r0) ∧ get hp' id = some (.rows k r)
  | some (.box t _), .box _ cs => get hp' id = some (.box t (cs.map (backC src nx)))
  | none, .rows 2 r => get hp' id = some (.rows 2 r)
  | _, _ => False
theorem absorbH_ok {src : List Nat} {nx : Nat} : ∀ (l olds : List (Blk R)) (n : Nat) (hp hp' : List (Nat × Blk R)), absorbH src nx l olds n hp = some hp' →
    (∀ i j, n ≤ i → n ≤ j → i < n + l.length → j < n + l.length → back src nx i = back src nx j → i = j) →
    (∀ id, (∀ j, j < l.length → id ≠ back src nx (n + j)) → get hp' id = get hp id) ∧ (∀ j b, l[j]? = some b → Taken src nx hp hp' (back src nx (n + j)) olds[j]? b)
  | [], olds, n, hp, hp', h, _ => by
    simp only [absorbH, Option.some.injEq] at h; subst h
    simp
  | b :: l, olds, n, hp, hp', h, hinj => by
    have hrest : ∀ (hp1 : List (Nat × Blk R)) (olds1 : List (Blk R)), absorbH src nx l olds1 (n + 1) hp1 = some hp' → (∀ id, id ≠ back src nx n → get hp1 id = get hp id) → (∀ j, olds1[j]? = olds[j + 1]?) →
        (get hp1 (back src nx n) = get hp' (back src nx n) → Taken src nx hp hp' (back src nx n) olds[0]? b) →
        (∀ id, (∀ j, j < (b :: l).length → id ≠ back src nx (n + j)) → get hp' id = get hp id) ∧ (∀ j c, (b :: l)[j]? = some c → Taken src nx hp hp' (back src nx (n + j)) olds[j]? c) := by
      intro hp1 olds1 ha hsame hol htk
      obtain ⟨h1, h2⟩ := absorbH_ok l olds1 (n + 1) hp1 hp' ha (fun i j a1 a2 a3 a4 => hinj i j (by omega) (by omega) (by simp; omega) (by simp; omega))
      have hne : ∀ j, j < l.length → back src nx n ≠ back src nx (n + 1 + j) := fun j hj e => by
        have := hinj n (n + 1 + j) (by omega) (by omega) (by simp) (by simp; omega) e; omega
      have h0 := h1 (back src nx n) hne
      refine ⟨fun id hid => ?_, fun j c hc => ?_⟩
      · rw [h1 id (fun j hj => by have := hid (j + 1) (by simpa using hj); rwa [show n + (j + 1) = n + 1 + j by omega] at this)]
        exact hsame id (by have := hid 0 (by simp); simpa using this)
      · cases j with
        | zero =>
          simp only [List.getElem?_cons_zero, Option.some.injEq] at hc; subst hc
          exact htk h0.symm
        | succ j =>
          simp only [List.getElem?_cons_succ] at hc
          have hj : j < l.length := by
            rcases Nat.lt_or_ge j l.length with q | q
            · exact q
            · rw [List.getElem?_eq_none q] at hc; simp at hc
          have h3 := h2 j c hc
          rw [hol j] at h3
          rw [show n + (j + 1) = n + 1 + j by omega]
          have hs : get hp1 (back src nx (n + 1 + j)) = get hp (back src nx (n + 1 + j)) := hsame _ (fun e => hne j hj e.symm)
          unfold Taken at h3 ⊢
          split at h3
          · rw [h3, hs]
          · rw [hs] at h3; exact h3
          · exact h3
          · exact h3
          · exact h3.elim
    simp only [absorbH] at h
    split at h
    · -- read alone
      rename_i r0 olds' r1
      exact hrest hp olds' h (fun _ _ => rfl) (fun j => by simp) (fun e => by simp only [Taken, List.getElem?_cons_zero]; exact e.symm)
    · -- lent
      rename_i r0 olds' r1
      split at h
      · rename_i k r2 hk
        exact hrest _ olds' h (fun id hid => by rw [get_cons, if_neg (fun e => hid e.symm)]) (fun j => by simp) (fun e => by
          simp only [Taken, List.getElem?_cons_zero]
          rw [get_cons, if_pos rfl] at e
          exact ⟨k, r2, hk, e.symm⟩)
      · simp at h
    · -- a variable
      rename_i t0 c0 olds' t1 cs
      exact hrest _ olds' h (fun id hid => by rw [get_cons, if_neg (fun e => hid e.symm)]) (fun j => by simp) (fun e => by
        simp only [Taken, List.getElem?_cons_zero]
        rw [get_cons, if_pos rfl] at e
        exact e.symm)
    · -- new
      rename_i r1
      exact hrest _ [] h (fun id hid => by rw [get_cons, if_neg (fun e => hid e.symm)]) (fun j => by simp) (fun e => by
        simp only [Taken, List.getElem?_nil]
        rw [get_cons, if_pos rfl] at e
        exact e.symm)
    · simp at h
end
end Go.Proofs.YtmfgajbkcnlkcaaGreat.AI
namespace Go.Proofs.YtmfgajbkcnlkcaaGreat.AI
set_option linter.all false
open Go Go.RowKit
section
variable {R : Type} [RowT R] {P : Program} [RowL P R] {w0 : World} {L : Nat → Prop} {g0 : Nat → Value} {hp0 : List (Blk R)} {st st' : St R} {g g' : Nat → Value} {a : Act} {w w' : World} {o : Oper}
omit [RowL P R] in
theorem rowVal {w : World} {base id k : Nat} {r : R} (h : BlkOK P g w base id (.rows k r)) : ∃ A cap, g id = .slice A (RowT.len r) cap := by
  cases k with
  | zero => obtain ⟨A, cap, hg, _⟩ := h; exact ⟨A, cap, hg⟩
  | succ k => rcases h.2 with ⟨hg, h0⟩ | ⟨b, cap, cur, hg, _⟩
              · exact ⟨none, 0, by rw [hg, h0]⟩
              · exact ⟨_, cap, hg⟩
def joinG (g g' : Nat → Value) (nx m id : Nat) : Value := if id < nx then g id else g' (m + (id - nx))
theorem getElem?_lt {α : Type} {l : List α} {i : Nat} {x : α} (h : l[i]? = some x) : i < l.length := by
  rcases Nat.lt_or_ge i l.length with q | q
  · exact q
  · rw [List.getElem?_eq_none q] at h; simp at h
theorem call_back {src : List Nat} {vs : List V} {bs : List (Blk R)} {out : Out R} {c : Value} {d : Option Nat} (h : Inv P w0 L g0 hp0 st g a w) (hpk : Packed P st g (seen g src) w vs bs src)
    (hres : ResOK P w (seen g src) bs out c w' g') (hab : absorb st src bs d out = some st') : ∃ g2, Inv P w0 L g0 hp0 st' g2 (a.put d c) w' ∧ (∀ i, i < st.nx → g2 i = g i) ∧ Tch g (callW bs src) w w' ∧ (∀ id, id < st.nx → id ∉ callW bs src → get st'.hp id = get st.hp id) ∧ st.nx ≤ st'.nx ∧ st'.nt = st.nt := by
  unfold absorb at hab
  split at hab
  case h_2 => simp at hab
  rename_i hp' hH
  have hm : bs.length = src.length := hpk.len
  -- the names
  have hsrc : ∀ i, i < src.length → ∃ x b b', src[i]? = some x ∧ get st.hp x = some b ∧ bs[i]? = some b' ∧ Given P g (seen g src) w src.length i x b b' ∧ x < st.nx ∧ back src st.nx i = x := fun i hi => by
    obtain ⟨b, b', e1, e2, e3⟩ := hpk.at_ i _ (List.getElem?_eq_getElem hi)
    exact ⟨_, b, b', List.getElem?_eq_getElem hi, e1, e2, e3, h.heap.idH _ _ e1, back_lt (List.getElem?_eq_getElem hi)⟩
  have hmN : src.length ≤ out.hp.length := by
    rcases Nat.lt_or_ge out.hp.length src.length with q | q
    · obtain ⟨x, b, b', _, _, e3, _⟩ := hsrc _ q
      obtain ⟨b1, f1, _⟩ := hres.old _ _ e3
      have := getElem?_lt f1; omega
    · exact q
  have hinj : ∀ i j, 0 ≤ i → 0 ≤ j → i < 0 + out.hp.length → j < 0 + out.hp.length → back src st.nx i = back src st.nx j → i = j := by
    intro i j _ _ hi hj e
    rcases Nat.lt_or_ge i src.length with qi | qi
    · obtain ⟨x, _, _, x1, _, _, _, x5, x6⟩ := hsrc i qi
      rcases Nat.lt_or_ge j src.length with qj | qj
      · obtain ⟨y, _, _, y1, _, _, _, y5, y6⟩ := hsrc j qj
        exact (List.getElem?_inj qi hpk.nd).1 (by rw [x1, y1, ← x6, ← y6, e])
      · rw [x6, back_ge qj] at e; omega
    · rcases Nat.lt_or_ge j src.length with qj | qj
      · obtain ⟨y, _, _, y1, _, _, _, y5, y6⟩ := hsrc j qj
        rw [y6, back_ge qi] at e; omega
      · rw [back_ge qi, back_ge qj] at e; omega
  obtain ⟨hkeep, htaken⟩ := absorbH_ok out.hp bs 0 st.hp hp' hH hinj
  simp only [Nat.zero_add] at hkeep htaken
  let g2 := joinG g g' st.nx src.length
  have hg2 : ∀ id, id < st.nx → g2 id = g id := fun id hid => by simp only [g2, joinG, if_pos hid]
  have hgB : ∀ i, i < out.hp.length → g2 (back src st.nx i) = g' i := by
    intro i hi
    rcases Nat.lt_or_ge i src.length with q | q
    · obtain ⟨x, _, _, x1, _, _, _, x5, x6⟩ := hsrc i q
      rw [x6, hg2 x x5, hres.keep i (by omega)]
      simp [seen, x1]
    · rw [back_ge q]
      simp only [g2, joinG]
      rw [if_neg (by omega)]
      congr 1; omega
  have hBn : ∀ i, i < out.hp.length → back src st.nx i < st.nx + (out.hp.length - src.length) := by
    intro i hi
    rcases Nat.lt_or_ge i src.length with q | q
    · obtain ⟨x, _, _, x1, _, _, _, x5, x6⟩ := hsrc i q
      omega
    · rw [back_ge q]; omega
  have hcC : ∀ y : C, (∀ id ∈ idsC y, id < out.hp.length) → conc g2 (backC src st.nx y) = conc g' y ∧ ∀ id ∈ idsC (backC src st.nx y), id < st.nx + (out.hp.length - src.length) := by
    intro y hy
    cases y with
    | rw id => have := hy id (by simp [idsC]); exact ⟨hgB id this, by simpa [backC, idsC] using hBn id this⟩
    | _ => exact ⟨rfl, by simp [backC, idsC]⟩
  have hcCs : ∀ ys : List C, (∀ id ∈ ys.flatMap idsC, id < out.hp.length) → (ys.map (backC src st.nx)).map (conc g2) = ys.map (conc g') ∧ ∀ id ∈ (ys.map (backC src st.nx)).flatMap idsC, id < st.nx + (out.hp.length - src.length) := by
    intro ys hy
    refine ⟨?_, fun id hid => ?_⟩
    · rw [List.map_map]
      exact List.map_congr_left fun c hc => (hcC c fun id hid => hy id (List.mem_flatMap.2 ⟨c, hc, hid⟩)).1
    · obtain ⟨c1, hc1, hq⟩ := List.mem_flatMap.1 hid
      obtain ⟨c, hc, rfl⟩ := List.mem_map.1 hc1
      exact (hcC c fun id hid => hy id (List.mem_flatMap.2 ⟨c, hc, hid⟩)).2 id hq
  have hcW : ∀ y : W, (∀ id ∈ idsW y, id < out.hp.length) → concW g2 (backW src st.nx y) = concW g' y ∧ ∀ id ∈ idsW (backW src st.nx y), id < st.nx + (out.hp.length - src.length) := by
    intro y hy
    cases y with
    | c x => exact hcC x hy
    | ag xs => obtain ⟨h1, h2⟩ := hcCs xs hy; exact ⟨by simp only [concW, backW, h1], h2⟩
  -- what has become of each name
  have cls : ∀ id b, get hp' id = some b →
      (get st.hp id = some b ∧ id < st.nx ∧ ∀ i ba, bs[i]? = some ba → ba.mut → id ≠ back src st.nx i) ∨
      (∃ i b0 ba bo, i < src.length ∧ id = back src st.nx i ∧ id < st.nx ∧ get st.hp id = some b0 ∧ bs[i]? = some ba ∧ ba.mut ∧ out.hp[i]? = some bo ∧ Given P g (seen g src) w src.length i id b0 ba ∧
        ((∃ k r r0 rr, b0 = .rows k r0 ∧ b = .rows k r ∧ bo = .rows 1 r ∧ ba = .rows 1 rr) ∨ ∃ t cs t' c0, b = .box t (cs.map (backC src st.nx)) ∧ bo = .box t' cs ∧ ba = .box t c0)) ∨
      (∃ i r, src.length ≤ i ∧ i < out.hp.length ∧ id = back src st.nx i ∧ st.nx ≤ id ∧ out.hp[i]? = some (.rows 2 r) ∧ b = .rows 2 r) := by
    intro id b hb
    by_cases hex : ∃ i, i < out.hp.length ∧ id = back src st.nx i
    · obtain ⟨i, hi, rfl⟩ := hex
      have ht := htaken i _ (List.getElem?_eq_getElem hi)
      rcases Nat.lt_or_ge i src.length with q | q
      · obtain ⟨x, b0, ba, x1, x2, x3, x4, x5, x6⟩ := hsrc i q
        rw [x3] at ht
        rw [x6] at ht hb ⊢
        generalize hbo : out.hp[i] = bo at ht
        have hbo' : out.hp[i]? = some bo := by rw [List.getElem?_eq_getElem hi, hbo]
        unfold Taken at ht
        split at ht
        · -- read alone
          rename_i heq
          injection heq with heq
          rw [hb] at ht
          refine .inl ⟨ht.symm, x5, fun j bj hj hmj => fun e => ?_⟩
          have := hinj i j (by omega) (by omega) (by omega) (by have := getElem?_lt hj; omega) (x6.trans e)
          subst this
          rw [x3] at hj; injection hj with hj; subst hj
          rw [heq] at hmj; exact hmj
        · rename_i rr r heq
          injection heq with heq
          obtain ⟨k, r0, e1, e2⟩ := ht
          rw [hb] at e2; injection e2 with e2
          refine .inr (.inl ⟨i, b0, ba, _, q, x6.symm, x5, x2, x3, by rw [heq]; trivial, hbo', x4, .inl ⟨k, _, r0, _, ?_, e2, rfl, heq⟩⟩)
          rw [x2] at e1; injection e1
        · rename_i t c0 t' cs heq
          injection heq with heq
          rw [hb] at ht; injection ht with ht
          exact .inr (.inl ⟨i, b0, ba, _, q, x6.symm, x5, x2, x3, by rw [heq]; trivial, hbo', x4, .inr ⟨_, _, _, _, ht, rfl, heq⟩⟩)
        · rename_i heq; simp at heq
        · exact ht.elim
      · have hn : bs[i]? = none := List.getElem?_eq_none (by omega)
        obtain ⟨⟨r, hr⟩, _⟩ := hres.new i _ (by omega) (List.getElem?_eq_getElem hi)
        rw [hn, hr] at ht
        simp only [Taken] at ht
        rw [hb] at ht; injection ht with ht
        exact .inr (.inr ⟨i, r, q, hi, rfl, by rw [back_ge q]; omega, by rw [List.getElem?_eq_getElem hi, hr], ht⟩)
    · have hne : ∀ j, j < out.hp.length → id ≠ back src st.nx j := fun j hj e => hex ⟨j, hj, e⟩
      have := hkeep id hne
      rw [hb] at this
      exact .inl ⟨this.symm, h.heap.idH _ _ this.symm, fun i ba hi _ => hne i (by have := getElem?_lt hi; omega)⟩
  -- where it lies
  have lies : ∀ id b n, get hp' id = some b → HasB g2 id n b → (∃ b0, get st.hp id = some b0 ∧ id < st.nx ∧ HasB g id n b0 ∧ (b.mut → b0.mut)) ∨ (∃ i r, src.length ≤ i ∧ i < out.hp.length ∧ id = back src st.nx i ∧ st.nx ≤ id ∧ out.hp[i]? = some (.rows 2 r) ∧ b = .rows 2 r ∧ HasB g' i n (Blk.rows 2 r) ∧ w.heap.size ≤ n) := by
    intro id b n hb hn
    rcases cls id b hb with ⟨e1, e2, _⟩ | ⟨i, b0, ba, bo, e1, e2, e3, e4, e5, e6, e7, e8, e9⟩ | ⟨i, r, e1, e2, e3, e4, e5, e6⟩
    · exact .inl ⟨b, e1, e2, (HasB.name (hg2 id e2)).1 hn, fun h => h⟩
    · refine .inl ⟨b0, e4, e3, ?_, fun _ => (e8.2.2.2.1 e6).1⟩
      have hbl : blkOf (g id) = some n := by
        rw [← hg2 id e3]
        rcases e9 with ⟨k, r, r0, rr, f1, f2, f3, f4⟩ | ⟨t, cs, t', c0, f1, f2, f3⟩
        · subst f2
          cases k with
          | zero => exact hn.1
          | succ k => exact hn
        · subst f1; exact hn
      exact e8.2.2.1 n ((e8.2.2.2.1 e6).2 n hbl)
    · subst e6
      have hn' : HasB g' i n (Blk.rows 2 r) := by
        have : blkOf (g2 id) = some n := hn
        rw [e3, hgB i e2] at this; exact this
      exact .inr ⟨i, r, e1, e2, e3, e4, e5, rfl, hn', (hres.new i _ (by omega) e5).2 n hn'⟩
  have hsize := h.heap.frame.size
  have hframe : ∀ k, k < w.heap.size → (∀ id b0, get st.hp id = some b0 → b0.mut → ¬ HasB g id k b0) → w'.heap[k]? = w.heap[k]? := by
    intro k hk hno
    refine hres.frame.block k hk ?_
    rintro ⟨i, ba, hi, hma, hna⟩
    obtain ⟨x, b0, ba', x1, x2, x3, x4, x5, x6⟩ := hsrc i (by have := getElem?_lt hi; omega)
    rw [hi] at x3; injection x3 with x3; subst x3
    exact hno x b0 x2 (x4.2.2.2.1 hma).1 (x4.2.2.1 k hna)
  have hh : HOK P w0 L (st.nx + (out.hp.length - src.length)) hp' g2 w' := by
    refine ⟨fun id b hb j hj => ?_, fun id b hb => ?_, fun id b hb => ?_, fun id b id' b' n hb hb' hne hmut hn hn' => ?_, fun id b n hb hmut hn => ?_, fun id hid => ?_, ?_⟩
    · rcases cls id b hb with ⟨e1, e2, _⟩ | ⟨i, b0, ba, bo, e1, e2, e3, e4, e5, e6, e7, e8, e9⟩ | ⟨i, r, e1, e2, e3, e4, e5, e6⟩
      · have := h.heap.idB id b e1 j hj; omega
      · rcases e9 with ⟨k, r, r0, rr, f1, f2, f3, f4⟩ | ⟨t, cs, t', c0, f1, f2, f3⟩
        · subst f2; simp [idsB] at hj
        · subst f1
          exact (hcCs cs (fun id hid => hres.idB i _ e7 id (by rw [f2]; exact hid))).2 j hj
      · subst e6; simp [idsB] at hj
    · rcases cls id b hb with ⟨e1, e2, _⟩ | ⟨i, b0, ba, bo, e1, e2, e3, e4, e5, e6, e7, e8, e9⟩ | ⟨i, r, e1, e2, e3, e4, e5, e6⟩
      · omega
      · omega
      · rw [e3]; exact hBn i e2
    · rcases cls id b hb with ⟨e1, e2, e3⟩ | ⟨i, b0, ba, bo, e1, e2, e3, e4, e5, e6, e7, e8, e9⟩ | ⟨i, r, e1, e2, e3, e4, e5, e6⟩
      · refine ((h.heap.blk id b e1).name (hg2 id e2) fun j hj => hg2 j (h.heap.idB id b e1 j hj)).move fun n hn => ?_
        rw [HasB.name (hg2 id e2)] at hn
        refine hres.frame.block n (h.heap.lt e1 hn) ?_
        rintro ⟨i, ba, hi, hma, hna⟩
        obtain ⟨x, b0, ba', x1, x2, x3, x4, x5, x6⟩ := hsrc i (by have := getElem?_lt hi; omega)
        rw [hi] at x3; injection x3 with x3; subst x3
        exact h.heap.sep x b0 id b n x2 e1 (fun e => e3 i ba hi hma (by rw [x6, e])) (x4.2.2.2.1 hma).1 (x4.2.2.1 n hna) hn
      · have hgi : g2 id = g' i := by rw [e2]; exact hgB i (by omega)
        have hbo := hres.blk i bo e7
        rcases e9 with ⟨k, r, r0, rr, f1, f2, f3, f4⟩ | ⟨t, cs, t', c0, f1, f2, f3⟩
        · subst f1; subst f2; subst f3
          cases k with
          | zero => exact ((e8.2.2.2.1 e6).1).elim
          | succ k =>
            have hold := h.heap.blk id _ e4
            obtain ⟨q1, q2⟩ := hbo
            refine ⟨q1, ?_⟩
            rw [hgi]
            rcases q2 with q2 | ⟨bb, cap, cur, q2, _, q3⟩
            · exact .inl q2
            · refine .inr ⟨bb, cap, cur, q2, ?_, q3⟩
              rcases hold.2 with ⟨p2, _⟩ | ⟨b1, cap1, cur1, p2, p3, _⟩
              · rw [← hg2 id e3, hgi, q2] at p2; simp at p2
              · rw [← hg2 id e3, hgi, q2] at p2
                simp only [Value.slice.injEq, Option.some.injEq, Addr.mk.injEq, and_true, true_and] at p2
                rw [p2.1]; exact p3
        · subst f1; subst f2; subst f3
          obtain ⟨bb, q1, q2, q3⟩ := hbo
          obtain ⟨b1, s1, s2⟩ := hres.old i _ e5
          rw [e7] at s1; injection s1 with s1; subst s1
          have ht : t = t' := s2
          subst ht
          obtain ⟨c1, c2⟩ := hcCs cs (fun id hid => hres.idB i _ e7 id hid)
          refine ⟨bb, hgi.trans q1, by rw [c1]; exact q2, fun y hy => ?_⟩
          obtain ⟨y0, hy0, rfl⟩ := List.mem_map.1 hy
          rw [(hcC y0 (fun id hid => hres.idB i _ e7 id (List.mem_flatMap.2 ⟨y0, hy0, hid⟩))).1]
          exact q3 y0 hy0
      · subst e6
        have hgi : g2 id = g' i := by rw [e3]; exact hgB i e2
        have hbo := hres.blk i _ e5
        obtain ⟨q1, q2⟩ := hbo
        refine ⟨q1, ?_⟩
        rw [hgi]
        rcases q2 with q2 | ⟨bb, cap, cur, q2, q4, q3⟩
        · exact .inl q2
        · exact .inr ⟨bb, cap, cur, q2, Nat.le_trans (by simpa using hsize) (by simpa using q4), q3⟩
    · rcases lies id b n hb hn with ⟨b0, e1, e2, e3, e4⟩ | ⟨i, r, e1, e2, e3, e4, e5, e6, e7, e8⟩
      · rcases lies id' b' n hb' hn' with ⟨b0', f1, f2, f3, f4⟩ | ⟨i', r', f1, f2, f3, f4, f5, f6, f7, f8⟩
        · exact h.heap.sep id b0 id' b0' n e1 f1 hne (e4 hmut) e3 f3
        · have := h.heap.lt e1 e3; omega
      · rcases lies id' b' n hb' hn' with ⟨b0', f1, f2, f3, f4⟩ | ⟨i', r', f1, f2, f3, f4, f5, f6, f7, f8⟩
        · have := h.heap.lt f1 f3; omega
        · exact hres.sep i _ i' _ n e5 f5 (fun e => hne (by rw [e3, f3, e])) trivial e7 f7
    · rcases lies id b n hb hn with ⟨b0, e1, e2, e3, e4⟩ | ⟨i, r, e1, e2, e3, e4, e5, e6, e7, e8⟩
      · exact h.heap.mutL id b0 n e1 (e4 hmut) e3
      · exact .inl (Nat.le_trans hsize e8)
    · rcases Nat.lt_or_ge id st.nx with q | q
      · rw [hg2 id q]; exact h.heap.one id q
      · have : g2 id = g' (src.length + (id - st.nx)) := by simp only [g2, joinG]; rw [if_neg (by omega)]
        rw [this]; exact hres.one _ (by omega)
    · refine ⟨hres.frame.os.trans h.heap.frame.os, hres.frame.tape.trans h.heap.frame.tape, hres.frame.output.trans h.heap.frame.output, Nat.le_trans hsize hres.frame.size, fun k hk hl => ?_⟩
      rw [hframe k (by omega) fun id b0 hb0 hm0 hn0 => ?_]
      · exact h.heap.frame.block k hk hl
      · rcases h.heap.mutL id b0 k hb0 hm0 hn0 with q | q
        · omega
        · exact hl q
  have hsame1 : ∀ id k r, id < st.nx → get hp' id = some (.rows k r) → ∃ k0 r0, get st.hp id = some (.rows k0 r0) ∧ RowT.len r = RowT.len r0 ∧ RowT.ty r = RowT.ty r0 := by
    intro id k r hid hr
    rcases cls id _ hr with ⟨e1, e2, e3⟩ | ⟨i, b0, ba, bo, e1, e2, e3, e4, e5, e6, e7, e8, e9⟩ | ⟨i, r', e1, e2, e3, e4, e5, e6⟩
    · exact ⟨k, r, e1, rfl, rfl⟩
    · rcases e9 with ⟨k', r1, r0, rr, f1, f2, f3, f4⟩ | ⟨t, cs, t', c0, f1, f2, f3⟩
      · injection f2 with f5 f6
        subst f5; subst f6; subst f1; subst f3; subst f4
        refine ⟨k, r0, e4, ?_, ?_⟩
        · obtain ⟨A, cap, q1⟩ := rowVal (h.heap.blk id _ e4)
          obtain ⟨A', cap', q2⟩ := rowVal (hres.blk i _ e7)
          have : g2 id = g' i := by rw [e2]; exact hgB i (by omega)
          rw [hg2 id e3, q1, q2] at this
          injection this with _ t2 _
          exact t2.symm
        · obtain ⟨b1, s1, s2⟩ := hres.old i _ e5
          rw [e7] at s1; injection s1 with s1; subst s1
          have hrr : r0 = rr := by
            rcases e8.2.2.2.2.2 with ⟨k1, r1, k2, z1, z2⟩ | ⟨t, cs, cs', z1, _⟩
            · injection z1 with _ z3; injection z2 with _ z4; rw [z3, z4]
            · simp at z1
          rw [hrr]; exact s2.2.symm
      · simp at f1
    · omega
  have hsame2 : ∀ id b, id < st.nx → get st.hp id = some b → b.handed → ∃ b', get hp' id = some b' ∧ SameKind b b' := by
    intro id b hid hb hhand
    by_cases hex : ∃ i, i < out.hp.length ∧ id = back src st.nx i
    · obtain ⟨i, hi, rfl⟩ := hex
      have q : i < src.length := by
        rcases Nat.lt_or_ge i src.length with q | q
        · exact q
        · rw [back_ge q] at hid; omega
      have ht := htaken i _ (List.getElem?_eq_getElem hi)
      obtain ⟨x, b0, ba, x1, x2, x3, x4, x5, x6⟩ := hsrc i q
      obtain ⟨bo, s1, s2⟩ := hres.old i _ x3
      have hbo : out.hp[i] = bo := by rw [List.getElem?_eq_getElem hi] at s1; injection s1
      rw [x3, hbo] at ht
      rw [x6] at ht hb ⊢
      rw [x2] at hb; injection hb with hb; subst hb
      have hbb := x4.2.2.2.2.2
      unfold Taken at ht
      split at ht
      · rw [x2] at ht; exact ⟨b0, ht, SameKind.refl hhand.dead⟩
      · rename_i rr r heq
        injection heq with heq
        obtain ⟨k, r0, e1, e2⟩ := ht
        rw [x2] at e1; injection e1 with e1; subst e1; subst heq
        refine ⟨_, e2, rfl, ?_⟩
        rcases hbb with ⟨k1, r1, k2, z1, z2⟩ | ⟨t, cs, cs', z1, _⟩
        · injection z1 with _ z3; injection z2 with _ z4
          rw [z3, ← z4]; exact s2.2
        · simp at z1
      · rename_i t c0 t' cs heq
        injection heq with heq
        subst heq
        refine ⟨_, ht, ?_⟩
        rcases hbb with ⟨k1, r1, k2, z1, z2⟩ | ⟨t, cs, cs', z1, z2⟩
        · simp at z2
        · injection z2 with z3 z4; subst z1; exact z3.symm
      · rename_i heq; simp at heq
      · exact ht.elim
    · exact ⟨b, by rw [hkeep id (fun j hj e => hex ⟨j, hj, e⟩)]; exact hb, SameKind.refl hhand.dead⟩
  have hsame : Same st.nx st.hp hp' := ⟨hsame1, hsame2⟩
  have h1 := h.onto hh (Nat.le_add_right _ _) hg2 hsame
  have hroM : ∀ (i : Nat) b, bs.all isRo = true → bs[i]? = some b → ¬ b.mut := by
    intro i b hall hb hm
    have := List.all_eq_true.1 hall b (List.mem_of_getElem? hb)
    cases b with
    | rows k r => cases k with
      | zero => exact hm
      | succ k => simp [isRo] at this
    | box _ _ => simp [isRo] at this
    | dead => exact hm
  have htch : Tch g (callW bs src) w w' := by
    refine ⟨hres.frame.os, hres.frame.tape, hres.frame.output, hres.frame.size, fun k hk hno => hres.frame.block k hk ?_⟩
    rintro ⟨i, ba, hi, hma, hna⟩
    unfold callW at hno
    cases hall : bs.all isRo with
    | true => exact hroM i ba hall hi hma
    | false =>
      rw [hall] at hno
      obtain ⟨x, b0, ba', x1, x2, x3, x4, x5, x6⟩ := hsrc i (by have := getElem?_lt hi; omega)
      rw [hi] at x3; injection x3 with x3; subst x3
      refine hno x (List.mem_of_getElem? x1) ?_
      have hh0 := x4.2.2.1 k hna
      have hm0 := (x4.2.2.2.1 hma).1
      cases b0 with
      | rows kk r => cases kk with
        | zero => exact hm0.elim
        | succ kk => exact hh0
      | box _ _ => exact hh0
      | dead => exact hm0.elim
  have hold : ∀ id, id < st.nx → id ∉ callW bs src → get hp' id = get st.hp id := by
    intro id hid hnot
    by_cases hex : ∃ i, i < out.hp.length ∧ id = back src st.nx i
    · obtain ⟨i, hi, rfl⟩ := hex
      have q : i < src.length := by
        rcases Nat.lt_or_ge i src.length with q | q
        · exact q
        · rw [back_ge q] at hid; omega
      obtain ⟨x, b0, ba, x1, x2, x3, x4, x5, x6⟩ := hsrc i q
      have ht := htaken i _ (List.getElem?_eq_getElem hi)
      unfold callW at hnot
      cases hall : bs.all isRo with
      | false =>
        rw [hall, x6] at hnot
        exact absurd (List.mem_of_getElem? x1) hnot
      | true =>
        have hro : ∃ r, ba = .rows 0 r := by
          have := List.all_eq_true.1 hall ba (List.mem_of_getElem? x3)
          cases ba with
          | rows k r => cases k with
            | zero => exact ⟨r, rfl⟩
            | succ k => simp [isRo] at this
          | box _ _ => simp [isRo] at this
          | dead => simp [isRo] at this
        obtain ⟨r, rfl⟩ := hro
        rw [x3] at ht
        cases hbo : out.hp[i] with
        | rows k' r' =>
          rw [hbo] at ht
          cases k' with
          | zero => exact ht
          | succ _ => simp [Taken] at ht
        | box _ _ => rw [hbo] at ht; simp [Taken] at ht
        | dead => rw [hbo] at ht; simp [Taken] at ht
    · exact hkeep id (fun j hj e => hex ⟨j, hj, e⟩)
  have hst : st'.hp = hp' ∧ st'.nx = st.nx + (out.hp.length - src.length) ∧ st'.nt = st.nt := by
    cases d with
    | none => simp only [St.put, Option.some.injEq] at hab; subst hab; exact ⟨rfl, rfl, rfl⟩
    | some d =>
      simp only [St.put] at hab
      cases hb : Nat.blt d st.nt with
      | false => rw [hb] at hab; simp at hab
      | true => rw [hb] at hab; simp only [cond_true, Option.some.injEq] at hab; subst hab; exact ⟨rfl, rfl, rfl⟩
  refine ⟨g2, h1.put hab (fun _ => ?_) ?_ ?_, hg2, htch, fun id h1 h2 => by rw [hst.1]; exact hold id h1 h2, by rw [hst.2.1]; omega, hst.2.2⟩
  · rw [hres.val]
    have key : ∀ l : List W, (∀ y ∈ l, ∀ id ∈ idsW y, id < out.hp.length) → resC g' l = concV g2 (resV src st.nx l) := by
      intro l hl
      match l, hl with
      | [], _ => rfl
      | [y], hl => simp only [resC, resV, concV]; exact ((hcW y (hl y (by simp))).1).symm
      | y :: y2 :: ys, hl =>
        simp only [resC, resV, concV, List.map_map]
        congr 2
        exact List.map_congr_left fun z hz => ((hcW z (hl z hz)).1).symm
    exact key out.res hres.ids
  · unfold resV
    split
    · rename_i y hy
      exact (hcW y (fun id hid => hres.ids y (by rw [hy]; simp) id hid)).2
    · rename_i ys hys
      intro id hid
      simp only [idsV] at hid
      obtain ⟨y1, hy1, hq⟩ := List.mem_flatMap.1 hid
      obtain ⟨y, hy, rfl⟩ := List.mem_map.1 hy1
      exact (hcW y (fun id hid => hres.ids y hy id hid)).2 id hq
  · unfold resV; split <;> trivial
end
end Go.Proofs.YtmfgajbkcnlkcaaGreat.AI
namespace Go.Proofs.YtmfgajbkcnlkcaaGreat.AI
set_option linter.all false
open Go Go.RowKit
section
variable {R : Type} [RowT R] {P : Program} [RowL P R] {w0 : World} {L : Nat → Prop} {g0 : Nat → Value} {hp0 : List (Blk R)} {st st' : St R} {g g' : Nat → Value} {a : Act} {w w' : World}
theorem idx_ok : ∀ {l : List Nat} {n i j : Nat}, idx l n i = some j → i ≤ j ∧ l[j - i]? = some n
  | [], n, i, j, h => by simp [idx] at h
  | x :: l, n, i, j, h => by
    simp only [idx] at h
    cases hb : Nat.beq x n with
    | true =>
      rw [hb] at h
      simp only [cond_true, Option.some.injEq] at h
      subst h
      exact ⟨Nat.le_refl _, by simp [beq_true hb]⟩
    | false =>
      rw [hb] at h
      simp only [cond_false] at h
      obtain ⟨h1, h2⟩ := idx_ok h
      refine ⟨by omega, ?_⟩
      rw [show j - i = (j - (i + 1)) + 1 by omega, List.getElem?_cons_succ]; exact h2
theorem idx0 {l : List Nat} {n j : Nat} (h : idx l n 0 = some j) : l[j]? = some n := (idx_ok h).2
theorem toC_ok {l : List Nat} {c c' : C} (h : toC l c = some c') : conc (seen g l) c' = conc g c ∧ ∀ id ∈ idsC c', id < l.length := by
  cases c with
  | rw id =>
    simp only [toC] at h
    cases hi : idx l id 0 with
    | none => rw [hi] at h; simp at h
    | some j =>
      rw [hi] at h
      simp only [Option.map_some, Option.some.injEq] at h
      subst h
      have := idx0 hi
      exact ⟨by simp [conc, seen, this], by simpa [idsC] using getElem?_lt this⟩
  | _ => simp only [toC, fixC, Option.some.injEq] at h; subst h; exact ⟨rfl, by simp [idsC]⟩
theorem toCs_ok {l : List Nat} : ∀ {cs cs' : List C}, toCs l cs = some cs' → cs'.map (conc (seen g l)) = cs.map (conc g) ∧ ∀ id ∈ cs'.flatMap idsC, id < l.length
  | [], cs', h => by simp only [toCs, Option.some.injEq] at h; subst h; simp
  | c :: cs, cs', h => by
    simp only [toCs] at h
    split at h
    · rename_i c1 cs1 h1 h2
      simp only [Option.some.injEq] at h; subst h
      obtain ⟨e1, e2⟩ := toC_ok (g := g) h1
      obtain ⟨f1, f2⟩ := toCs_ok h2
      refine ⟨by rw [List.map_cons, List.map_cons, e1, f1], fun id hid => ?_⟩
      simp only [List.flatMap_cons, List.mem_append] at hid
      rcases hid with q | q
      · exact e2 id q
      · exact f2 id q
    · simp at h
theorem toW_ok {l : List Nat} {y y' : W} (h : toW l y = some y') : concW (seen g l) y' = concW g y ∧ ∀ id ∈ idsW y', id < l.length := by
  cases y with
  | c x =>
    simp only [toW] at h
    cases hx : toC l x with
    | none => rw [hx] at h; simp at h
    | some x' => rw [hx] at h; simp only [Option.map_some, Option.some.injEq] at h; subst h; exact toC_ok hx
  | ag xs =>
    simp only [toW] at h
    cases hx : toCs l xs with
    | none => rw [hx] at h; simp at h
    | some x' =>
      rw [hx] at h; simp only [Option.map_some, Option.some.injEq] at h; subst h
      obtain ⟨e1, e2⟩ := toCs_ok (g := g) hx
      exact ⟨by simp only [concW, e1], e2⟩
theorem toV_ok {l : List Nat} {v v' : V} (h : toV l v = some v') : (v' = .no ∨ (v ≠ .no ∧ concV (seen g l) v' = concV g v)) ∧ (∀ id ∈ idsV v', id < l.length) ∧ ∀ hp : List (Nat × Blk R), EpOK P hp v' := by
  cases v with
  | w y =>
    simp only [toV] at h
    cases hx : toW l y with
    | none => rw [hx] at h; simp at h
    | some x' =>
      rw [hx] at h; simp only [Option.map_some, Option.some.injEq] at h; subst h
      obtain ⟨e1, e2⟩ := toW_ok (g := g) hx
      exact ⟨.inr ⟨by simp, e1⟩, e2, fun _ => trivial⟩
  | pt id off =>
    simp only [toV] at h
    cases hx : idx l id 0 with
    | none => rw [hx] at h; simp at h
    | some j =>
      rw [hx] at h; simp only [Option.map_some, Option.some.injEq] at h; subst h
      have := idx0 hx
      exact ⟨.inr ⟨by simp, by simp [concV, seen, this]⟩, by simpa [idsV] using getElem?_lt this, fun _ => trivial⟩
  | no => simp only [toV, Option.some.injEq] at h; subst h; exact ⟨.inl rfl, by simp [idsV], fun _ => trivial⟩
  | _ => simp [toV] at h
theorem toTm_ok {l : List Nat} : ∀ {ts : List Nat} {tm : List (Nat × V)}, toTm l st ts = some tm → ∀ t v, get tm t = some v → toV l (st.v t) = some v
  | [], tm, h, t, v, hv => by simp only [toTm, Option.some.injEq] at h; subst h; simp [get] at hv
  | t0 :: ts, tm, h, t, v, hv => by
    simp only [toTm] at h
    split at h
    · rename_i v1 tm1 h1 h2
      simp only [Option.some.injEq] at h; subst h
      rw [get_cons] at hv
      split at hv
      · rename_i e; subst e; simp only [Option.some.injEq] at hv; subst hv; exact h1
      · exact toTm_ok h2 t v hv
    · simp at h
def Told (l : List Nat) : Blk R → Blk R → Prop
  | .rows k r, .rows k' r' => k = k' ∧ r = r'
  | .box t cs, .box t' cs' => t = t' ∧ toCs l cs = some cs'
  | _, _ => False
theorem toHp_ok {l0 : List Nat} : ∀ {l : List Nat} {n : Nat} {hp : List (Nat × Blk R)}, toHp l0 st l n = some hp →
    (∀ i b, get hp i = some b → n ≤ i ∧ ∃ id b0, l[i - n]? = some id ∧ get st.hp id = some b0 ∧ Told l0 b0 b) ∧ (∀ (k : Nat) id, l[k]? = some id → ∃ b b0, get hp (n + k) = some b ∧ get st.hp id = some b0 ∧ Told l0 b0 b) ∧ (vals2 hp).length = l.length ∧ (∀ (k : Nat), (vals2 hp)[k]? = get hp (n + k))
  | [], n, hp, h => by simp only [toHp, Option.some.injEq] at h; subst h; simp [get, vals2]
  | id :: l, n, hp, h => by
    simp only [toHp] at h
    split at h
    · rename_i b0 hb0
      split at h
      · rename_i b' hp1 h1 h2
        simp only [Option.some.injEq] at h; subst h
        have htold : Told l0 b0 b' := by
          cases b0 with
          | rows k r => simp only [toBlk, Option.some.injEq] at h1; subst h1; exact ⟨rfl, rfl⟩
          | box t cs =>
            simp only [toBlk] at h1
            cases hx : toCs l0 cs with
            | none => rw [hx] at h1; simp at h1
            | some c => rw [hx] at h1; simp only [Option.map_some, Option.some.injEq] at h1; subst h1; exact ⟨rfl, hx⟩
          | dead => simp [toBlk] at h1
        obtain ⟨e1, e2, e3, e4⟩ := toHp_ok h2
        refine ⟨fun i b hb => ?_, fun k x hx => ?_, by simp [vals2, e3], fun k => ?_⟩
        · rw [get_cons] at hb
          split at hb
          · rename_i e; subst e; simp only [Option.some.injEq] at hb; subst hb
            exact ⟨Nat.le_refl _, id, b0, by simp, hb0, htold⟩
          · obtain ⟨f1, id', b1, f2, f3, f4⟩ := e1 i b hb
            exact ⟨by omega, id', b1, by rw [show i - n = (i - (n + 1)) + 1 by omega, List.getElem?_cons_succ]; exact f2, f3, f4⟩
        · cases k with
          | zero => simp only [List.getElem?_cons_zero, Option.some.injEq] at hx; subst hx; exact ⟨b', b0, by rw [get_cons, if_pos (Nat.add_zero n).symm], hb0, htold⟩
          | succ k =>
            obtain ⟨b, b1, f1, f2, f3⟩ := e2 k x (by simpa using hx)
            exact ⟨b, b1, by rw [get_cons, if_neg (by omega), show n + (k + 1) = n + 1 + k by omega]; exact f1, f2, f3⟩
        · cases k with
          | zero => rw [get_cons]; simp [vals2]
          | succ k => rw [get_cons, if_neg (by omega), show n + (k + 1) = n + 1 + k by omega, ← e4 k]; simp [vals2]
      · simp at h
    · simp at h
theorem firsts_ok : ∀ {l : List Nat} {i n : Nat}, firsts l i n = true → ∀ j, j < n → l[j]? = some (i + j)
  | _, _, 0, _, j, hj => by omega
  | [], _, n + 1, h, _, _ => by simp [firsts] at h
  | x :: l, i, n + 1, h, j, hj => by
    simp only [firsts, Bool.and_eq_true] at h
    cases j with
    | zero => simp [beq_true h.1]
    | succ j => rw [List.getElem?_cons_succ, firsts_ok h.2 j (by omega)]; congr 1; omega
theorem named_ok {l : List Nat} {na : Nat} (h : named l na = true) : l.Nodup ∧ ∀ j, j < na → l[j]? = some j := by
  simp only [named, Bool.and_eq_true] at h
  refine ⟨nodup_ok h.1, fun j hj => by simpa using firsts_ok h.2 j hj⟩
theorem Told.ok {l : List Nat} {i id base : Nat} {b0 b : Blk R} (h : Told l b0 b) (hi : l[i]? = some id) (hb : BlkOK P g w base id b0) : BlkOK P (seen g l) w base i b ∧ (∀ n, HasB (seen g l) i n b ↔ HasB g id n b0) ∧ (b.mut ↔ b0.mut) ∧ (∀ j ∈ idsB b, j < l.length) ∧ SameKind b0 b := by
  have hg : seen g l i = g id := by simp [seen, hi]
  cases b0 with
  | rows k r =>
    cases b with
    | rows k' r' =>
      obtain ⟨rfl, rfl⟩ := h
      refine ⟨?_, fun n => ?_, ?_, by simp [idsB], rfl, rfl⟩
      · cases k <;> simpa only [BlkOK, hg] using hb
      · cases k <;> simp only [HasB, hg]
      · cases k <;> exact Iff.rfl
    | box _ _ => exact h.elim
    | dead => exact h.elim
  | box t cs =>
    cases b with
    | box t' cs' =>
      obtain ⟨rfl, hc⟩ := h
      obtain ⟨e1, e2⟩ := toCs_ok (g := g) hc
      obtain ⟨bb, q1, q2, q3⟩ := hb
      refine ⟨⟨bb, hg.trans q1, by rw [e1]; exact q2, fun c hc' => ?_⟩, fun n => by simp only [HasB, hg], Iff.rfl, by simpa [idsB] using e2, rfl⟩
      have : conc (seen g l) c ∈ cs.map (conc g) := by rw [← e1]; exact List.mem_map.2 ⟨c, hc', rfl⟩
      obtain ⟨c1, hc1, e⟩ := List.mem_map.1 this
      rw [← e]; exact q3 c1 hc1
    | rows _ _ => exact h.elim
    | dead => exact h.elim
  | dead => cases b <;> exact h.elim
theorem rename_ok (h : HOK P w0 L st.nx st.hp g w) {l : List Nat} {hp : List (Nat × Blk R)} (hl : l.Nodup) (hh : toHp l st l 0 = some hp) : HOK P w0 L l.length hp (seen g l) w := by
  obtain ⟨e1, e2, _, _⟩ := toHp_ok hh
  have fact : ∀ i b, get hp i = some b → ∃ id b0, l[i]? = some id ∧ get st.hp id = some b0 ∧ Told l b0 b := fun i b hb => by
    obtain ⟨_, id, b0, f1, f2, f3⟩ := e1 i b hb; exact ⟨id, b0, by simpa using f1, f2, f3⟩
  refine ⟨fun i b hb => ?_, fun i b hb => ?_, fun i b hb => ?_, fun i b i' b' n hb hb' hne hm hn hn' => ?_, fun i b n hb hm hn => ?_, fun i hi => ?_, h.frame⟩
  · obtain ⟨id, b0, f1, f2, f3⟩ := fact i b hb
    exact (f3.ok f1 (h.blk id b0 f2)).2.2.2.1
  · obtain ⟨id, b0, f1, f2, f3⟩ := fact i b hb
    exact getElem?_lt f1
  · obtain ⟨id, b0, f1, f2, f3⟩ := fact i b hb
    exact (f3.ok f1 (h.blk id b0 f2)).1
  · obtain ⟨id, b0, f1, f2, f3⟩ := fact i b hb
    obtain ⟨id', b0', k1, k2, k3⟩ := fact i' b' hb'
    have t1 := f3.ok f1 (h.blk id b0 f2)
    have t2 := k3.ok k1 (h.blk id' b0' k2)
    exact h.sep id b0 id' b0' n f2 k2 (fun e => hne ((List.getElem?_inj (getElem?_lt f1) hl).1 (by rw [f1, k1, e]))) (t1.2.2.1.1 hm) ((t1.2.1 n).1 hn) ((t2.2.1 n).1 hn')
  · obtain ⟨id, b0, f1, f2, f3⟩ := fact i b hb
    have t1 := f3.ok f1 (h.blk id b0 f2)
    exact h.mutL id b0 n f2 (t1.2.2.1.1 hm) ((t1.2.1 n).1 hn)
  · obtain ⟨b, b0, f1, f2, f3⟩ := e2 i _ (List.getElem?_eq_getElem hi)
    have := h.one _ (h.idH _ _ f2)
    simpa [seen, List.getElem?_eq_getElem hi] using this
theorem canon_ok (h : Inv P w0 L g0 hp0 st g a w) {live : List Nat} (hc : canon live st = some st') : ∃ g', Inv P w0 L g0 hp0 st' g' a w := by
  unfold canon at hc
  dsimp only at hc
  generalize List.foldl (fun l id => addIds l (boxIds st id)) _ _ = l at hc
  cases hn : named l st.na with
  | false => rw [hn] at hc; simp at hc
  | true =>
    rw [hn] at hc
    simp only [cond_true] at hc
    obtain ⟨hnd, hfst⟩ := named_ok hn
    split at hc
    · rename_i tm hp h1 h2
      simp only [Option.some.injEq] at hc; subst hc
      have hh := rename_ok h.heap hnd h2
      obtain ⟨e1, e2, _, _⟩ := toHp_ok h2
      refine ⟨seen g l, h.defers, h.size, fun t v hv hno => ?_, fun t v hv => ?_, fun t v hv => ?_, fun i b0 hb0 => ?_, fun id hid => ?_, ?_, h.hpna, hh⟩
      · have ht := toTm_ok h1 t v hv
        obtain ⟨k1, k2, k3⟩ := toV_ok (P := P) (R := R) (g := g) ht
        rcases k1 with k1 | ⟨k0, k1⟩
        · exact absurd k1 hno
        · rw [k1]
          unfold St.v at k0 ⊢
          cases hg : get st.tm t with
          | none => rw [hg] at k0; exact absurd rfl k0
          | some u => rw [hg] at k0; exact h.tm t u hg k0
      · exact (toV_ok (P := P) (R := R) (g := g) (toTm_ok h1 t v hv)).2.1
      · exact (toV_ok (P := P) (R := R) (g := g) (toTm_ok h1 t v hv)).2.2 _
      · obtain ⟨b, f1, f2, f3⟩ := h.keep i b0 hb0
        have hi : i < st.na := by rw [← h.hpna]; exact getElem?_lt hb0
        obtain ⟨b', b1, k1, k2, k3⟩ := e2 i i (hfst i hi)
        rw [f1] at k2; injection k2 with k2; subst k2
        have hs := (k3.ok (hfst i hi) (h.heap.blk i b f1)).2.2.2.2
        exact ⟨b', by simpa using k1, f2.trans hs, f3.same hs⟩
      · have := hfst id hid
        simp only [seen, this, Option.getD_some]; exact h.args id hid
      · rcases Nat.eq_zero_or_pos st.na with q | q
        · show st.na ≤ l.length; omega
        · have := getElem?_lt (hfst (st.na - 1) (by omega)); show st.na ≤ l.length; omega
    · simp at hc
end
end Go.Proofs.YtmfgajbkcnlkcaaGreat.AI
namespace Go.Proofs.YtmfgajbkcnlkcaaGreat.AI
set_option linter.all false
open Go Go.RowKit
section
variable {R : Type} [RowT R] {P : Program} [RowL P R] {w0 : World} {L : Nat → Prop} {g0 : Nat → Value} {hp0 : List (Blk R)} {st st' : St R} {g g' : Nat → Value} {a : Act} {w w' : World} {o : Oper}
theorem run_loadVarS {t : TypeId} {fs : Array Field} (hu : P.underlying t = some (.struct fs)) {ad : Addr} {cs : List Value} (hl : P.cellsOf t = cs.length) (h : ∀ j v, cs[j]? = some v → w.cell? (ad.add j) = some v) :
    (loadVar t ad).run P w = .ok (.agg cs.toArray) w := by
  obtain ⟨i, hi⟩ := info_of hu
  simp [loadVar, run_isAgg_s hu, run_size hi, hl, run_loadCells_list w ad cs h]
theorem resultsAll_ok (h : Inv P w0 L g0 hp0 st g a w) (f : ResultVar → Go.Sem Value) (hf : ∀ u, f (.tmp u) = pure (a.tmps.getD u undef)) (hc : ∀ x t, f (.cell x t) = (do loadVar t (← asAddr (a.tmps.getD x undef)))) :
    ∀ (rs : List ResultVar) (ys : List W), resultsAll P st rs = some ys → (rs.mapM f).run P w = .ok (ys.map (concW g)) w
  | [], ys, hr => by simp only [resultsAll, Option.some.injEq] at hr; subst hr; simp
  | r :: rs, ys, hr => by
    simp only [resultsAll] at hr
    split at hr
    · rename_i y ys' h1 h2
      simp only [Option.some.injEq] at hr; subst hr
      have ih := resultsAll_ok h f hf hc rs ys' h2
      have tmv : ∀ t v, st.v t = v → v ≠ .no → a.tmps.getD t undef = concV g v := fun t v hv hno => by
        have := h.ev (x := .tmp t) (by simp only [AI.ev]; rw [hv]; exact hno)
        simp only [AI.ev, Act.eval] at this
        rw [hv] at this; exact this.1
      have one : (f r).run P w = .ok (concW g y) w := by
        unfold results1 at h1
        split at h1
        · rename_i t
          split at h1
          · rename_i y' hy
            simp only [Option.some.injEq] at h1; subst h1
            rw [hf, tmv t _ hy (by simp)]; rfl
          · simp at h1
        · rename_i t ty
          split at h1
          · rename_i id hv
            split at h1
            · rename_i t' cs hb
              cases hcc : (isStruct P ty && Nat.beq ty t' && Nat.beq (P.cellsOf ty) cs.length) with
              | false => rw [hcc] at h1; simp at h1
              | true =>
                rw [hcc] at h1
                simp only [cond_true, Option.some.injEq] at h1; subst h1
                simp only [Bool.and_eq_true] at hcc
                obtain ⟨fs, hu⟩ := isStruct_of hcc.1.1
                obtain ⟨b, hg, hh, _⟩ := h.heap.blk _ _ hb
                rw [hc, tmv t _ hv (by simp)]
                simp only [concV, hg]
                have := run_loadVarS (P := P) (w := w) hu (ad := ⟨b, 0, none⟩) (cs := cs.map (conc g)) (by rw [beq_true hcc.2]; simp) (fun j v hj => by rw [add_lit, cell_of_row w b _ _ _ _ hh]; simpa using hj)
                simp [asAddr, this, concW]
            · simp at h1
          · simp at h1
      rw [List.mapM_cons]
      simp [one, ih]
    · simp at hr
theorem results_ok (h : Inv P w0 L g0 hp0 st g a w) {fn : Func} {ys : List W} (hr : resultsAll P st fn.results.toList = some ys) : (results fn a.tmps).run P w = .ok (resC g ys) w := by
  unfold results
  rw [Array.mapM_eq_mapM_toList]
  simp only [Sem.run_bind, Sem.run_map]
  rw [resultsAll_ok h _ (fun _ => rfl) (fun _ _ => rfl) _ ys hr]
  match ys with
  | [] => simp [resC]
  | [y] => simp [resC]
  | y :: y2 :: ys => simp [resC]
theorem toWs_ok {l : List Nat} : ∀ {ys ws : List W}, toWs l ys = some ws → ws.map (concW (seen g l)) = ys.map (concW g) ∧ ∀ y ∈ ws, ∀ id ∈ idsW y, id < l.length
  | [], ws, h => by simp only [toWs, Option.some.injEq] at h; subst h; simp
  | y :: ys, ws, h => by
    simp only [toWs] at h
    split at h
    · rename_i y1 ws1 h1 h2
      simp only [Option.some.injEq] at h; subst h
      obtain ⟨e1, e2⟩ := toW_ok (g := g) h1
      obtain ⟨f1, f2⟩ := toWs_ok h2
      refine ⟨?_, fun z hz => ?_⟩
      · rw [List.map_cons, List.map_cons, e1, f1]
      · rcases List.mem_cons.1 hz with rfl | hz
        · exact e2
        · exact f2 z hz
    · simp at h
theorem resC_congr {G G' : Nat → Value} {ys zs : List W} (h : ys.map (concW G) = zs.map (concW G')) : resC G ys = resC G' zs := by
  match ys, zs, h with
  | [], [], _ => rfl
  | [y], [z], h => simpa [resC] using h
  | y :: y2 :: ys, z :: z2 :: zs, h => simp only [resC, h]
  | [], _ :: _, h => simp at h
  | _ :: _, [], h => simp at h
  | [_], _ :: _ :: _, h => simp at h
  | _ :: _ :: _, [_], h => simp at h
theorem allOwn_ok {na : Nat} : ∀ {hp : List (Nat × Blk R)}, allOwn hp na = true → ∀ i b, get hp i = some b → na ≤ i → ∃ r, b = .rows 2 r
  | [], _, i, b, h, _ => by simp [get] at h
  | (j, c) :: hp, ha, i, b, h, hi => by
    simp only [allOwn, Bool.and_eq_true, Bool.or_eq_true] at ha
    rw [get_cons] at h
    split at h
    · rename_i e; subst e; simp only [Option.some.injEq] at h; subst h
      rcases ha.1 with q | q
      · have : j + 1 ≤ na := by simpa [Nat.blt] using q
        omega
      · split at q
        · rename_i r; exact ⟨r, rfl⟩
        · simp at q
    · exact allOwn_ok ha.2 i b h hi
theorem finish_ok (h : Inv P w0 (fun n => ∃ (i : Nat) (b : Blk R), hp0[i]? = some b ∧ b.mut ∧ HasB g0 i n b) g0 hp0 st g a w) {fn : Func} {out : Out R} (hf : finish P fn.results.toList st = some out) :
    ∃ c g', (results fn a.tmps).run P w = .ok c w ∧ ResOK P w0 g0 hp0 out c w g' := by
  unfold finish at hf
  split at hf
  case h_2 => simp at hf
  rename_i ys hys
  dsimp only at hf
  generalize List.foldl (fun l y => addIds l (idsW y)) _ ys = l at hf
  split at hf
  case h_2 => simp at hf
  rename_i ws hp h1 h2
  cases hn : (named l st.na && allOwn hp st.na) with
  | false => rw [hn] at hf; simp at hf
  | true =>
    rw [hn] at hf
    simp only [cond_true, Option.some.injEq] at hf; subst hf
    simp only [Bool.and_eq_true] at hn
    obtain ⟨hnd, hfst⟩ := named_ok hn.1
    have hh := rename_ok h.heap hnd h2
    obtain ⟨e1, e2, e3, e4⟩ := toHp_ok h2
    obtain ⟨k1, k2⟩ := toWs_ok (g := g) h1
    have hget : ∀ i : Nat, (vals2 hp)[i]? = get hp i := fun i => by simpa using e4 i
    have hnal : st.na ≤ l.length := by
      rcases Nat.eq_zero_or_pos st.na with q | q
      · omega
      · have := getElem?_lt (hfst (st.na - 1) (by omega)); omega
    have hs : ∀ i, i < hp0.length → seen g l i = g0 i := fun i hi => by
      rw [h.hpna] at hi
      simp only [seen, hfst i hi, Option.getD_some]; exact h.args i hi
    refine ⟨resC g ys, seen g l, results_ok h hys, resC_congr k1.symm, hs, ?_, ?_, ?_, ?_, ?_, ?_, ?_, h.heap.frame⟩
    · intro y hy id hid
      show id < (vals2 hp).length
      rw [e3]; exact k2 y hy id hid
    · intro i b hb j hj
      show j < (vals2 hp).length
      rw [e3]; exact hh.idB i b (by rw [← hget]; exact hb) j hj
    · intro i b hb; exact hh.blk i b (by rw [← hget]; exact hb)
    · intro i b i' b' n hb hb' hne hm hn'
      exact hh.sep i b i' b' n (by rw [← hget]; exact hb) (by rw [← hget]; exact hb') hne hm hn'
    · intro i b hb
      obtain ⟨b1, f1, f2, f3⟩ := h.keep i b hb
      have hi : i < st.na := by rw [← h.hpna]; exact getElem?_lt hb
      obtain ⟨b', b2, m1, m2, m3⟩ := e2 i i (hfst i hi)
      rw [f1] at m2; injection m2 with m2; subst m2
      refine ⟨b', by show (vals2 hp)[i]? = _; rw [hget]; simpa using m1, f2.trans (m3.ok (hfst i hi) (h.heap.blk i b1 f1)).2.2.2.2⟩
    · intro i b hi hb
      rw [h.hpna] at hi
      have hb' : get hp i = some b := by rw [← hget]; exact hb
      obtain ⟨r, rfl⟩ := allOwn_ok hn.2 i b hb' hi
      refine ⟨⟨r, rfl⟩, fun n hn' => ?_⟩
      have hbk := hh.blk i _ hb'
      have hn2 : blkOf (seen g l i) = some n := hn'
      rcases hbk.2 with ⟨q, _⟩ | ⟨b, cap, cur, q, q2, _⟩
      · rw [q] at hn2; simp [blkOf] at hn2
      · rw [q] at hn2; simp only [blkOf, Option.some.injEq] at hn2; rw [← hn2]; simpa using q2
    · intro i hi
      exact hh.one i (by have : i < (vals2 hp).length := hi; rwa [e3] at this)
theorem put_st {d : Option Nat} {v : V} (h : st.put d v = some st') : st'.hp = st.hp ∧ st'.nx = st.nx ∧ st'.nt = st.nt ∧ st'.na = st.na := by
  cases d with
  | none => simp only [St.put, Option.some.injEq] at h; subst h; exact ⟨rfl, rfl, rfl, rfl⟩
  | some d =>
    simp only [St.put] at h
    cases hb : Nat.blt d st.nt with
    | false => rw [hb] at h; simp at h
    | true => rw [hb] at h; simp only [cond_true, Option.some.injEq] at h; subst h; exact ⟨rfl, rfl, rfl, rfl⟩
theorem tests_ok {Z : Type} {z : Z} {x : Option Z} : ∀ {ts : List Tst}, tests ts x = some z → (∀ t ∈ ts, t.p) ∧ x = some z
  | [], h => ⟨by simp, h⟩
  | t :: ts, h => by
    simp only [tests] at h
    by_cases ht : t.p
    · rw [@if_pos _ t.i ht] at h
      obtain ⟨h1, h2⟩ := tests_ok h
      exact ⟨fun u hu => by rcases List.mem_cons.1 hu with rfl | hu; exact ht; exact h1 u hu, h2⟩
    · rw [@if_neg _ t.i ht] at h; simp at h
theorem find_ok : ∀ {O : List (Cal R)} {f : FuncId} {c : Cal R}, find O f = some c → c ∈ O ∧ c.f = f
  | [], f, c, h => by simp [find] at h
  | o :: O, f, c, h => by
    simp only [find] at h
    cases hb : Nat.beq o.f f with
    | true => rw [hb] at h; simp only [cond_true, Option.some.injEq] at h; subst h; exact ⟨List.mem_cons_self .., beq_true hb⟩
    | false => rw [hb] at h; obtain ⟨h1, h2⟩ := find_ok (by simpa using h); exact ⟨List.mem_cons_of_mem _ h1, h2⟩
def Keeps (wr : List Nat) (st st' : St R) : Prop := (∀ id, id < st.nx → id ∉ wr → get st'.hp id = get st.hp id) ∧ st.nx ≤ st'.nx
def Does (P : Program) (w0 : World) (L : Nat → Prop) (g0 : Nat → Value) (hp0 : List (Blk R)) (o : Oper) (wr : List Nat) (st st' : St R) : Prop :=
  ∀ (g : Nat → Value) (a : Act) (w : World), Inv P w0 L g0 hp0 st g a w → Keeps wr st st' ∧ (∀ (K : Act → World → Prop) (Q : Exit → Act → World → Prop), (∀ g' a' w', Inv P w0 L g0 hp0 st' g' a' w' → (∀ i, i < st.nx → g' i = g i) → Tch g wr w w' → K a' w') → o.wp P a w K Q) ∧
    (quietOp o.op = true → ∃ v, Inv P w0 L g0 hp0 st' g (a.put o.dst v) w ∧ ∀ w1, LdOK P st g w0.heap.size o w1 → (execOp a.eval o).run P w1 = .ok (.value v) w1)
theorem Keeps.put {wr : List Nat} {d : Option Nat} {v : V} (h : st.put d v = some st') : Keeps wr st st' := by
  obtain ⟨h1, h2, _⟩ := put_st h; exact ⟨fun id _ _ => by rw [h1], by omega⟩
theorem Keeps.rows {wr : List Nat} {d : Option Nat} {r : R} (h : AI.newRows st d r = some st') : Keeps wr st st' := by
  obtain ⟨h1, h2, _⟩ := put_st h
  exact ⟨fun id hid _ => by rw [h1]; show get ((st.nx, _) :: st.hp) id = _; rw [get_cons, if_neg (by omega)], by rw [h2]; exact Nat.le_succ _⟩
theorem Keeps.box {wr : List Nat} {d : Option Nat} {t : TypeId} {cs : List C} (h : AI.newBox st d t cs = some st') : Keeps wr st st' := by
  obtain ⟨h1, h2, _⟩ := put_st h
  exact ⟨fun id hid _ => by rw [h1]; show get ((st.nx, _) :: st.hp) id = _; rw [get_cons, if_neg (by omega)], by rw [h2]; exact Nat.le_succ _⟩
theorem Keeps.trans {wr : List Nat} {s0 s1 s2 : St R} (a : Keeps wr s0 s1) (b : Keeps wr s1 s2) : Keeps wr s0 s2 :=
  ⟨fun id h1 h2 => (b.1 id (Nat.lt_of_lt_of_le h1 a.2) h2).trans (a.1 id h1 h2), Nat.le_trans a.2 b.2⟩
theorem zeroC_keeps : ∀ (vs : List Value) (fs : List Field) (nx nx' : Nat) (cs : List C) (es : List (Nat × Blk R)), zeroC P nx vs fs = some (nx', cs, es) → nx ≤ nx' ∧ ∀ (hp : List (Nat × Blk R)) id, id < nx → get (es ++ hp) id = get hp id
  | [], fs, nx, nx', cs, es, h => by
    cases fs with
    | cons f fs => simp [zeroC] at h
    | nil => simp only [zeroC, Option.some.injEq, Prod.mk.injEq] at h; obtain ⟨rfl, rfl, rfl⟩ := h; simp
  | v :: vs, fs, nx, nx', cs, es, h => by
    cases fs with
    | nil => cases v <;> first | (simp [zeroC] at h; done) | (rename_i A n c; cases A <;> first | (simp [zeroC] at h; done) | (cases n <;> first | (simp [zeroC] at h; done) | (cases c <;> simp [zeroC] at h)))
    | cons f fs =>
      cases v <;> first | (simp [zeroC] at h; done) | skip
      case bool b =>
        simp only [zeroC] at h
        split at h
        · rename_i h1; simp only [Option.some.injEq, Prod.mk.injEq] at h; obtain ⟨rfl, rfl, rfl⟩ := h; exact zeroC_keeps vs fs _ _ _ _ h1
        · simp at h
      case int k n =>
        simp only [zeroC] at h
        split at h
        · rename_i h1; simp only [Option.some.injEq, Prod.mk.injEq] at h; obtain ⟨rfl, rfl, rfl⟩ := h; exact zeroC_keeps vs fs _ _ _ _ h1
        · simp at h
      case slice A n c =>
        cases A with
        | some _ => simp [zeroC] at h
        | none => cases n with
          | succ _ => simp [zeroC] at h
          | zero => cases c with
            | succ _ => simp [zeroC] at h
            | zero =>
              simp only [zeroC] at h
              split at h
              · split at h
                · rename_i h1
                  simp only [Option.some.injEq, Prod.mk.injEq] at h; obtain ⟨rfl, rfl, rfl⟩ := h
                  obtain ⟨h2, h3⟩ := zeroC_keeps vs fs _ _ _ _ h1
                  refine ⟨by omega, fun hp id hid => ?_⟩
                  rw [List.append_assoc, h3 _ id (by omega)]
                  show get ((nx, _) :: hp) id = _
                  rw [get_cons, if_neg (by omega)]
                · simp at h
              · simp at h
theorem zeroOf_keeps {wr : List Nat} {t : TypeId} {cs : List C} (h : zeroOf P t st = some (st', cs)) : Keeps wr st st' := by
  unfold zeroOf at h
  split at h
  · split at h
    · split at h
      · rename_i h1
        simp only [Option.some.injEq, Prod.mk.injEq] at h; obtain ⟨rfl, rfl⟩ := h
        obtain ⟨h2, h3⟩ := zeroC_keeps _ _ _ _ _ _ h1
        exact ⟨fun id hid _ => h3 _ id hid, h2⟩
      · simp at h
    · simp at h
  · simp at h
theorem Keeps.turn {wr : List Nat} {id : Nat} {b : Blk R} (h : id ∈ wr) : Keeps wr st { st with hp := (id, b) :: st.hp } :=
  ⟨fun i _ hi => by show get ((id, b) :: st.hp) i = _; rw [get_cons, if_neg (fun (e : id = i) => hi (by rw [← e]; exact h))], Nat.le_refl _⟩
omit [RowL P R] in
theorem Keeps.mv {wr : List Nat} {x : Operand} {ts : List Tst} (h : mvOf P o st x = some (ts, st')) : Keeps wr st st' := by
  unfold mvOf at h
  repeat' split at h
  all_goals first
    | (simp at h; done)
    | (simp only [Option.some.injEq, Prod.mk.injEq] at h; obtain ⟨_, rfl⟩ := h; first | exact Keeps.put (by assumption) | exact Keeps.rows (by assumption))
theorem Keeps.app {wr : List Nat} {id : Nat} {r' : R} {d : Option Nat} {v : V} (hid : id ∈ wr) (h : ({ st with nx := st.nx + 1, hp := (st.nx, .rows 2 r') :: (id, .dead) :: st.hp } : St R).put d v = some st') : Keeps wr st st' := by
  refine Keeps.trans ⟨fun i hi hn => ?_, ?_⟩ (Keeps.put h)
  · show get ((st.nx, _) :: (id, _) :: st.hp) i = _
    rw [get_cons, if_neg (by omega), get_cons, if_neg (fun (e : id = i) => hn (by rw [← e]; exact hid))]
  · exact Nat.le_succ _
theorem pop_keeps {ts : List Tst} (h : pop P o st = some (ts, st')) : Keeps (writes st o) st st' := by
  unfold pop at h
  dsimp only at h
  simp only [Bool.cond_eq_ite] at h
  repeat' split at h
  all_goals first
    | (simp at h; done)
    | exact Keeps.mv h
    | (simp only [Option.some.injEq, Prod.mk.injEq] at h; obtain ⟨_, rfl⟩ := h
       first
       | exact Keeps.put (by assumption)
       | exact Keeps.box (by assumption)
       | exact Keeps.rows (by assumption)
       | exact (zeroOf_keeps (by assumption)).trans (Keeps.box (by assumption))
       | exact (zeroOf_keeps (by assumption)).trans (Keeps.put (by assumption))
       | exact Keeps.turn (by simp_all [writes, idOf])
       | (refine Keeps.app ?_ (by assumption); simp_all [writes, idOf]))
    | skip
end
end Go.Proofs.YtmfgajbkcnlkcaaGreat.AI
namespace Go.Proofs.YtmfgajbkcnlkcaaGreat.AI
set_option linter.all false
open Go Go.RowKit
section
variable {R : Type} [RowT R] {P : Program} [RowL P R] {w0 : World} {L : Nat → Prop} {g0 : Nat → Value} {hp0 : List (Blk R)} {st st' : St R} {g g' : Nat → Value} {a : Act} {w w' : World} {o : Oper}
theorem any_mem {x : Nat} {l : List Nat} : l.any (Nat.beq x) = true ↔ x ∈ l := by
  rw [List.any_eq_true]
  exact ⟨fun ⟨y, h1, h2⟩ => by rw [beq_true h2]; exact h1, fun h => ⟨x, h, Nat.beq_refl x⟩⟩
theorem subset_ok {l m : List Nat} (h : subset l m = true) : ∀ x ∈ l, x ∈ m := fun x hx => any_mem.1 (List.all_eq_true.1 h x hx)
theorem quiet_call (h : callOf o ≠ none) : quietOp o.op = false := by
  unfold callOf at h
  split at h
  · rename_i c hop
    split at h
    · rename_i f hc
      rw [hop]; simp only [quietOp, hc]
    · exact absurd rfl h
  · exact absurd rfl h
theorem rowStore_ok {id k i : Nat} {r r' : R} {vs : List Sc} (h : rowStore P o st = some (id, k, r, i, vs)) (hs : RowT.set r i vs = some r') : pop P o st = some ([], { st with hp := (id, .rows k r') :: st.hp }) := by
  unfold rowStore at h
  split at h
  · rename_i t a x hop
    split at h
    · rename_i id1 sz1 i1 off1 y hd ha hx
      split at h
      · rename_i k1 r1 hb
        split at h
        · rename_i ys
          split at h
          · rename_i vs1 hv
            cases hc : (isStruct P t && Nat.beq off1 0 && Nat.beq t (RowT.ty r1)) with
            | false => rw [hc] at h; simp at h
            | true =>
              rw [hc] at h
              simp only [cond_true, Option.some.injEq, Prod.mk.injEq] at h
              obtain ⟨rfl, rfl, rfl, rfl, rfl⟩ := h
              unfold pop
              simp only [hop, hd, ha, hx, hb, hv, hc, hs, cond_true]
          · simp at h
        · rename_i y1
          split at h
          · rename_i v hv
            cases hc : isOne P t with
            | false => rw [hc] at h; simp at h
            | true =>
              rw [hc] at h
              simp only [cond_true] at h
              split at h
              · rename_i v0 hn
                simp only [Option.some.injEq, Prod.mk.injEq] at h
                obtain ⟨rfl, rfl, rfl, rfl, rfl⟩ := h
                unfold pop
                simp only [hop, hd, ha, hx, hb, hv, hc, hn, hs, cond_true]
              · simp at h
          · simp at h
      · simp at h
    · simp at h
  · simp at h
theorem eop_ok {O : List (Cal R)} (hO : ∀ c ∈ O, Sound P c) {k : Nat} {lm : Option (List Nat)} {Z : Type} {K : St R → Option Z} {z : Z} (h : eop P O k lm o st K = some z) :
    ∃ st' wr, K st' = some z ∧ Does P w0 L g0 hp0 o wr st st' ∧ ∀ d, lm = some d → ∀ x ∈ wr, x ∈ d := by
  have wi : ∀ {l : List Nat}, within lm l = true → ∀ d, lm = some d → ∀ x ∈ l, x ∈ d := by
    intro l hw d hd; subst hd; exact subset_ok hw
  unfold eop at h
  split at h
  · rename_i f xs hcall
    split at h
    · rename_i c hfind
      split at h
      · rename_i vs bs src hpack
        cases hnd : (nodup src && within lm (callW bs src)) with
        | false => rw [hnd] at h; simp at h
        | true =>
          rw [hnd] at h
          simp only [cond_true] at h
          simp only [Bool.and_eq_true] at hnd
          obtain ⟨hmem, hcf⟩ := find_ok hfind
          obtain ⟨⟨fn, hfn, hname, hbody⟩, hok⟩ := hO c hmem
          obtain ⟨out, h1, hgood⟩ := hok k vs bs Z _ z h
          split at h1
          · rename_i st1 hab
            have hq := quiet_call (o := o) (by rw [hcall]; simp)
            refine ⟨st1, callW bs src, h1, fun g a w hI => ?_, wi hnd.2⟩
            obtain ⟨hargs, hpk⟩ := packed hI hpack hnd.1
            have hrun : (execOp a.eval o).run P w = .ok (.enter c.f (vs.map (concV (seen g src))).toArray) w := by
              unfold callOf at hcall
              split at hcall
              · rename_i cl hop
                split at hcall
                · rename_i f' hcl
                  simp only [Option.some.injEq, Prod.mk.injEq] at hcall
                  obtain ⟨rfl, rfl⟩ := hcall
                  unfold execOp
                  rw [hop]
                  have hmap : cl.args.map a.eval = (vs.map (concV (seen g src))).toArray := by
                    rw [hargs, ← Array.toList_map, Array.toArray_toList]
                  have hne : ¬ fn.name = "runtime.NumGoroutine" := by simpa using hname
                  have hbd : ¬ fn.body = none := by intro e; rw [e] at hbody; simp at hbody
                  simp only [resolve, hcl, hmap, Act.eval, Deferred.ofValue]
                  rw [← hcf]
                  simp [invoke, callFunc, program, Sem.run, hfn, hne, hbd]
                · simp at hcall
              · simp at hcall
            refine ⟨?_, fun K' Q hK => ?_, fun hqo => by rw [hq] at hqo; simp at hqo⟩
            · obtain ⟨e, w', _, ⟨cv, g', _, hres⟩, _⟩ := hgood w (seen g src) hpk.args []
              obtain ⟨_, _, _, _, h4, h5, _⟩ := call_back hI hpk hres hab
              exact ⟨h4, h5⟩
            · unfold Oper.wp
              rw [hrun, Oper.upon_enter]
              refine (hgood w (seen g src) hpk.args).mono ?_
              rintro e w' ⟨cv, g', rfl, hres⟩
              obtain ⟨g2, hI2, h2, h3, _⟩ := call_back hI hpk hres hab
              exact hK g2 _ _ hI2 h2 h3
          · simp at h1
      · simp at h
    · simp at h
  · cases hw : within lm (writes st o) with
    | false => rw [hw] at h; simp at h
    | true =>
      rw [hw] at h
      simp only [cond_true] at h
      have fin : ∀ (ts : List Tst) (st1 : St R), pop P o st = some (ts, st1) → (∀ t ∈ ts, t.p) → K st1 = some z → ∃ st' wr, K st' = some z ∧ Does P w0 L g0 hp0 o wr st st' ∧ ∀ d, lm = some d → ∀ x ∈ wr, x ∈ d := by
        intro ts st1 hp h1 h2
        have hk := pop_keeps hp
        refine ⟨st1, writes st o, h2, fun g a w hI => ?_, wi hw⟩
        obtain ⟨g', v, w', hr, hI', hg, ht, hq⟩ := pop_wp hI hp h1
        refine ⟨hk, fun K' Q hK => ?_, fun hqo => ?_⟩
        · unfold Oper.wp
          rcases hr with hr | ⟨hr, rfl⟩
          · rw [hr]; exact hK g' _ _ hI' hg ht
          · rw [hr]; exact hK g' _ _ hI' hg ht
        · obtain ⟨rfl, hrun⟩ := hq hqo
          have hrr := hrun w (ld_here hI o)
          have hw' : w' = w := by
            rcases hr with hr | ⟨hr, _⟩
            · rw [hrr] at hr; injection hr with _ e; exact e.symm
            · rw [hrr] at hr; injection hr with e; simp at e
          subst hw'
          exact ⟨v, hI', hrun⟩
      split at h
      · rename_i id k r i vs hr
        obtain ⟨r', e1, e2⟩ := RowL.setK_eq (P := P) r i vs _ _ z h
        exact fin [] _ (rowStore_ok hr e1) (by simp) e2
      · split at h
        · rename_i ts st1 hp
          obtain ⟨h1, h2⟩ := tests_ok h
          exact fin ts st1 hp h1 h2
        · simp at h
def Bl (P : Program) (w0 : World) (L : Nat → Prop) (g0 : Nat → Value) (hp0 : List (Blk R)) (t : Nat) (b : Bool) (st st' : St R) : Prop :=
  st'.hp = st.hp ∧ st'.nx = st.nx ∧ ∀ g a w, Inv P w0 L g0 hp0 st g a w → a.tmps[t]? = some (.bool b) ∧ Inv P w0 L g0 hp0 st' g a w
theorem know_ok {t : Nat} {b : Bool} {v : V} (hv : st.v t = v) (hno : v ≠ .no) (hc : ∀ g, concV g v = .bool b) : Bl P w0 L g0 hp0 t b st (st.know t b) := by
  refine ⟨rfl, rfl, fun g a w h => ?_⟩
  have hg : get st.tm t = some v := by
    unfold St.v at hv
    cases hq : get st.tm t with
    | none => rw [hq] at hv; exact absurd hv.symm hno
    | some u => rw [hq] at hv; simp only [Option.getD_some] at hv; rw [hv]
  have h1 := h.tm t v hg hno
  rw [hc] at h1
  refine ⟨h1, h.defers, h.size, fun t' u hu hn => ?_, fun t' u hu => ?_, fun t' u hu => ?_, h.keep, h.args, h.na, h.hpna, h.heap⟩
  · simp only [St.know] at hu
    rw [get_cons] at hu
    split at hu
    · rename_i e; subst e; simp only [Option.some.injEq] at hu; subst hu; exact h1
    · exact h.tm t' u hu hn
  · simp only [St.know] at hu
    rw [get_cons] at hu
    split at hu
    · simp only [Option.some.injEq] at hu; subst hu; simp [idsV, idsW, idsC]
    · exact h.idT t' u hu
  · simp only [St.know] at hu
    rw [get_cons] at hu
    split at hu
    · simp only [Option.some.injEq] at hu; subst hu; trivial
    · exact h.ep t' u hu
omit [RowL P R] in
theorem same_ok {t : Nat} {b : Bool} {v : V} (hv : st.v t = v) (hno : v ≠ .no) (hc : ∀ g, concV g v = .bool b) : Bl P w0 L g0 hp0 t b st st := by
  refine ⟨rfl, rfl, fun g a w h => ⟨?_, h⟩⟩
  have hg : get st.tm t = some v := by
    unfold St.v at hv
    cases hq : get st.tm t with
    | none => rw [hq] at hv; exact absurd hv.symm hno
    | some u => rw [hq] at hv; simp only [Option.getD_some] at hv; rw [hv]
  rw [h.tm t v hg hno, hc]
theorem part_ok {Z : Type} {t : Nat} {F : Bool → St R → Option Z} {z : Z} (h : part st t F = some z) : ∃ b st', F b st' = some z ∧ Bl P w0 L g0 hp0 t b st st' := by
  unfold part at h
  split at h
  · rename_i hv; exact ⟨true, st, h, same_ok hv (by simp) fun _ => rfl⟩
  · rename_i hv; exact ⟨false, st, h, same_ok hv (by simp) fun _ => rfl⟩
  · rename_i p i hv
    by_cases hp : p
    · rw [@if_pos _ i hp] at h; exact ⟨true, _, h, know_ok hv (by simp) fun _ => by simp [concV, concW, conc, hp]⟩
    · rw [@if_neg _ i hp] at h; exact ⟨false, _, h, know_ok hv (by simp) fun _ => by simp [concV, concW, conc, hp]⟩
  · rename_i p i hv
    by_cases hp : p
    · rw [@if_pos _ i hp] at h; exact ⟨false, _, h, know_ok hv (by simp) fun _ => by simp [concV, concW, conc, hp]⟩
    · rw [@if_neg _ i hp] at h; exact ⟨true, _, h, know_ok hv (by simp) fun _ => by simp [concV, concW, conc, hp]⟩
  · rename_i b hv
    split at h
    · rename_i hb; exact ⟨true, _, h, know_ok hv (by simp) fun _ => by simp [concV, concW, conc, Sc.v, hb]⟩
    · rename_i hb; exact ⟨false, _, h, know_ok hv (by simp) fun _ => by simp [concV, concW, conc, Sc.v, hb]⟩
  · simp at h
theorem guarded_ok {Z : Type} {ops : Array Oper} {run pass : St R → Option Z} {z : Z} (h : guarded ops.toList o st run pass = some z) :
    ∃ (b : Bool) (st' : St R), (if b then run st' else pass st') = some z ∧ st'.hp = st.hp ∧ st'.nx = st.nx ∧
      ∀ g a w, Inv P w0 L g0 hp0 st g a w → Region.wanted o (yielded ops a.tmps) = b ∧ Inv P w0 L g0 hp0 st' g a w := by
  unfold guarded at h
  split at h
  · rename_i hg
    exact ⟨true, st, h, rfl, rfl, fun g a w hI => ⟨by simp [Region.wanted, hg], hI⟩⟩
  · rename_i j want hg
    split at h
    · rename_i t ht
      have hy : ∀ (a : Act) (b : Bool), a.tmps[t]? = some (.bool b) → Region.wanted o (yielded ops a.tmps) = (b == want) := by
        intro a b hb
        simp only [Region.wanted, hg, yielded]
        rw [nth_eq, Array.getElem?_toList] at ht
        rw [ht]
        simp only [Option.bind_some, hb]
        cases b <;> cases want <;> rfl
      split at h
      · rename_i hv
        refine ⟨false, st, h, rfl, rfl, fun g a w hI => ⟨?_, hI⟩⟩
        have hgt : get st.tm t = some .un := by
          unfold St.v at hv
          cases hq : get st.tm t with
          | none => rw [hq] at hv; simp at hv
          | some u => rw [hq] at hv; simp only [Option.getD_some] at hv; rw [hv]
        have h1 := hI.tm t _ hgt (by simp)
        simp only [Region.wanted, hg, yielded]
        rw [nth_eq, Array.getElem?_toList] at ht
        rw [ht]
        simp only [Option.bind_some, h1, concV]
        rfl
      · obtain ⟨b, st', h1, h2, h3, h4⟩ := part_ok (P := P) (w0 := w0) (L := L) (g0 := g0) (hp0 := hp0) h
        refine ⟨b == want, st', ?_, h2, h3, fun g a w hI => ?_⟩
        · cases hb : (b == want) with
          | true => rw [hb] at h1; simpa using h1
          | false => rw [hb] at h1; simpa using h1
        · obtain ⟨q1, q2⟩ := h4 g a w hI
          exact ⟨hy a b q1, q2⟩
    · simp at h
theorem passed_ok {Z : Type} {K : St R → Option Z} {z : Z} (h : passed o st K = some z) : ∃ st', K st' = some z ∧ st'.hp = st.hp ∧ st'.nx = st.nx ∧ ∀ g a w, Inv P w0 L g0 hp0 st g a w → Inv P w0 L g0 hp0 st' g (a.put o.dst undef) w := by
  unfold passed at h
  split at h
  · rename_i s hs
    obtain ⟨h1, h2, _⟩ := put_st hs
    exact ⟨s, h, h1, h2, fun g a w hI => hI.put hs (fun _ => rfl) (by simp [idsV]) trivial⟩
  · simp at h
theorem eops_ok {O : List (Cal R)} (hO : ∀ c ∈ O, Sound P c) {k : Nat} {Z : Type} {K : St R → Option Z} {z : Z} {ops : Array Oper} : ∀ (l : List Oper) (st : St R), eops P O k ops.toList l st K = some z →
    ∃ st', K st' = some z ∧ ∀ g a w (Q : Exit → Act → World → Prop), Inv P w0 L g0 hp0 st g a w → (∀ g' a' w', Inv P w0 L g0 hp0 st' g' a' w' → Q .normal a' w') → wpList P ops Q l a w
  | [], st, h => ⟨st, h, fun g a w Q hI hK => hK g a w hI⟩
  | o :: l, st, h => by
    simp only [eops] at h
    obtain ⟨b, st1, h1, _, _, h2⟩ := guarded_ok (P := P) (w0 := w0) (L := L) (g0 := g0) (hp0 := hp0) h
    cases b with
    | true =>
      simp only [if_true] at h1
      obtain ⟨st2, wr, h3, h4, _⟩ := eop_ok (w0 := w0) (L := L) (g0 := g0) (hp0 := hp0) hO h1
      obtain ⟨st', h5, h6⟩ := eops_ok hO l st2 h3
      refine ⟨st', h5, fun g a w Q hI hK => ?_⟩
      obtain ⟨q1, q2⟩ := h2 g a w hI
      unfold wpList
      rw [if_pos q1]
      exact .inl ((h4 g a w q2).2.1 _ _ fun g' a' w' hI' _ _ => h6 g' a' w' Q hI' hK)
    | false =>
      simp only [Bool.false_eq_true, if_false] at h1
      obtain ⟨st2, h3, _, _, h4⟩ := passed_ok (P := P) (w0 := w0) (L := L) (g0 := g0) (hp0 := hp0) h1
      obtain ⟨st', h5, h6⟩ := eops_ok hO l st2 h3
      refine ⟨st', h5, fun g a w Q hI hK => ?_⟩
      obtain ⟨q1, q2⟩ := h2 g a w hI
      unfold wpList
      rw [if_neg (by rw [q1]; simp)]
      exact h6 g _ w Q (h4 g a w q2) hK
end
end Go.Proofs.YtmfgajbkcnlkcaaGreat.AI
namespace Go.Proofs.YtmfgajbkcnlkcaaGreat.AI
set_option linter.all false
open Go Go.RowKit
section
variable {R : Type} [RowT R] {P : Program} [RowL P R] {w0 : World} {L : Nat → Prop} {g0 : Nat → Value} {hp0 : List (Blk R)} {st st' st0 : St R} {g g' gS : Nat → Value} {a : Act} {w w' wS : World} {o : Oper} {d : List Nat}
structure Held (d : List Nat) (st0 : St R) (gS : Nat → Value) (wS : World) (st : St R) (g : Nat → Value) (w : World) : Prop where
  keeps : Keeps d st0 st
  names : ∀ i, i < st0.nx → g i = gS i
  tch : Tch gS d wS w
omit [RowL P R] in
theorem Held.same (h : Held d st0 gS wS st g w) (h1 : st'.hp = st.hp) (h2 : st'.nx = st.nx) : Held d st0 gS wS st' g w :=
  ⟨⟨fun id a b => by rw [h1]; exact h.keeps.1 id a b, by rw [h2]; exact h.keeps.2⟩, h.names, h.tch⟩
theorem held_ld (h0 : HOK P w0 L st0.nx st0.hp gS wS) (hd : ∀ x ∈ d, ∃ t cs, get st0.hp x = some (.box t cs)) (h : Held d st0 gS wS st g w) (ho : okLoad d st0.nx st o = true) :
    ∀ w1, Tch gS d wS w1 → LdOK P st g w0.heap.size o w1 := by
  intro w1 ht id hid b hb
  have h1 := List.all_eq_true.1 ho id hid
  simp only [Bool.and_eq_true, Bool.not_eq_true'] at h1
  have hlt : id < st0.nx := by
    have := h1.1
    simp only [Nat.blt] at this
    exact Nat.le_of_ble_eq_true this
  have hnd : id ∉ d := fun hm => by have := any_mem.2 hm; rw [this] at h1; simp at h1
  rw [h.keeps.1 id hlt hnd] at hb
  have hbk := h0.blk id b hb
  have hmv : BlkOK P gS w1 w0.heap.size id b := hbk.move fun n hn => ht.block n (hbk.lt hn) fun x hx hbx => by
    obtain ⟨t, cs, hg⟩ := hd x hx
    exact h0.sep x _ id b n hg hb (fun e => hnd (e ▸ hx)) trivial hbx hn
  exact hmv.name (h.names id hlt) fun j hj => h.names j (h0.idB id b hb j hj)
omit [RowL P R] in
theorem Held.step (h : Held d st0 gS wS st g w) (hd : ∀ x ∈ d, x < st0.nx) {wr : List Nat} (hs : ∀ x ∈ wr, x ∈ d) (hk : Keeps wr st st') (hg : ∀ i, i < st.nx → g' i = g i) (ht : Tch g wr w w') : Held d st0 gS wS st' g' w' := by
  have hn := h.keeps.2
  refine ⟨h.keeps.trans ⟨fun id h1 h2 => hk.1 id h1 fun hm => h2 (hs id hm), hk.2⟩, fun i hi => (hg i (by omega)).trans (h.names i hi), ?_⟩
  refine ⟨ht.os.trans h.tch.os, ht.tape.trans h.tch.tape, ht.output.trans h.tch.output, Nat.le_trans h.tch.size ht.size, fun k hk1 hk2 => ?_⟩
  rw [ht.block k (Nat.lt_of_lt_of_le hk1 h.tch.size) fun id hid => by rw [h.names id (hd id (hs id hid))]; exact hk2 id (hs id hid)]
  exact h.tch.block k hk1 hk2
theorem firstQ_ok {ops : Array Oper} {listed : Array Bool} : ∀ {l : List Nat} {j : Nat}, firstQ ops listed l = some j → j ∈ l ∧ Region.free .any ops listed j = true ∧ ∃ o, ops[j]? = some o ∧ quietOp o.op = true
  | [], j, h => by simp [firstQ] at h
  | i :: l, j, h => by
    simp only [firstQ] at h
    split at h
    · rename_i o ho
      cases hc : (quietOp o.op && Region.free .any ops listed i) with
      | true =>
        rw [hc] at h
        simp only [cond_true, Option.some.injEq] at h; subst h
        simp only [Bool.and_eq_true] at hc
        exact ⟨List.mem_cons_self .., hc.2, o, ho, hc.1⟩
      | false =>
        rw [hc] at h
        obtain ⟨h1, h2⟩ := firstQ_ok (by simpa using h)
        exact ⟨List.mem_cons_of_mem _ h1, h2⟩
    · obtain ⟨h1, h2⟩ := firstQ_ok (by simpa using h)
      exact ⟨List.mem_cons_of_mem _ h1, h2⟩
theorem mkPlan_ok {ops : Array Oper} : ∀ {f : Nat} {listed : Array Bool} {l : List Nat}, mkPlan ops f listed = some l →
    (l = [] ∧ Region.ready .any ops listed = []) ∨ ∃ i r f', l = i :: r ∧ f = f' + 1 ∧ mkPlan ops f' (listed.setIfInBounds i true) = some r ∧
      ((i ∈ Region.ready .any ops listed ∧ Region.free .any ops listed i = true ∧ ∃ o, ops[i]? = some o ∧ quietOp o.op = true) ∨ Region.ready .any ops listed = [i])
  | 0, listed, l, h => by
    simp only [mkPlan] at h
    split at h
    · rename_i hr; simp only [Option.some.injEq] at h; exact .inl ⟨h.symm, hr⟩
    · simp at h
  | f + 1, listed, l, h => by
    simp only [mkPlan] at h
    split at h
    · rename_i hr; simp only [Option.some.injEq] at h; exact .inl ⟨h.symm, hr⟩
    · rename_i i r hr
      split at h
      · rename_i j hj
        split at h
        · rename_i l' hl
          simp only [Option.some.injEq] at h; subst h
          obtain ⟨h1, h2⟩ := firstQ_ok hj
          exact .inr ⟨j, l', f, rfl, rfl, hl, .inl ⟨by rw [hr]; exact h1, h2⟩⟩
        · simp at h
      · split at h
        · split at h
          · rename_i l' hl
            simp only [Option.some.injEq] at h; subst h
            exact .inr ⟨i, l', f, rfl, rfl, hl, .inr hr⟩
          · simp at h
        · simp at h
theorem eopsD_ok {O : List (Cal R)} (hO : ∀ c ∈ O, Sound P c) {k : Nat} {Z : Type} {K : St R → Option Z} {z : Z} {ops : Array Oper} (hsel : Region.noSelect ops = true) : ∀ (l : List Nat) (f : Nat) (listed : Array Bool) (st : St R), mkPlan ops f listed = some l → eopsD P O k ops.toList d st0.nx l st K = some z →
    ∃ st', K st' = some z ∧ ∀ gS wS, HOK P w0 L st0.nx st0.hp gS wS → (∀ x ∈ d, x < st0.nx ∧ ∃ t cs, get st0.hp x = some (.box t cs)) → ∀ g a w (Q : Exit → Act → World → Prop), (∀ c a w, ¬ Q (.panic c) a w) → Inv P w0 L g0 hp0 st g a w → Held d st0 gS wS st g w →
      (∀ g' a' w', Inv P w0 L g0 hp0 st' g' a' w' → Q .normal a' w') → wpAnyH P .any ops Q (Tch gS d wS) f listed a w
  | [], f, listed, st, hp, h => by
    simp only [eopsD] at h
    rcases mkPlan_ok hp with ⟨_, hr⟩ | ⟨i, r, f', e, _⟩
    · exact ⟨st, h, fun gS wS h0 hd g a w Q hQ hI hH hK => wpAnyH_done hr (hK g a w hI) f⟩
    · simp at e
  | i :: l, f, listed, st, hp, h => by
    rcases mkPlan_ok hp with ⟨e, _⟩ | ⟨i', r, f', e, rfl, hp', hcase⟩
    · simp at e
    · injection e with e1 e2; subst e1; subst e2
      simp only [eopsD] at h
      split at h
      case h_2 => simp at h
      rename_i o ho
      rw [nth_eq, Array.getElem?_toList] at ho
      obtain ⟨b, st1, h1, hh1, hn1, h2⟩ := guarded_ok (P := P) (w0 := w0) (L := L) (g0 := g0) (hp0 := hp0) h
      cases b with
      | true =>
        simp only [if_true] at h1
        cases hc : (!quietOp o.op || okLoad d st0.nx st1 o) with
        | false => rw [hc] at h1; simp at h1
        | true =>
          rw [hc] at h1
          simp only [cond_true] at h1
          obtain ⟨st2, wr, h3, h4, h5⟩ := eop_ok (w0 := w0) (L := L) (g0 := g0) (hp0 := hp0) hO h1
          have hwr := h5 d rfl
          obtain ⟨st', h6, h7⟩ := eopsD_ok hO hsel l f' _ st2 hp' h3
          refine ⟨st', h6, fun gS wS h0 hd g a w Q hQ hI hH hK => ?_⟩
          obtain ⟨q1, q2⟩ := h2 g a w hI
          have hH1 := hH.same (st' := st1) hh1 hn1
          obtain ⟨k1, k2, k3⟩ := h4 g a w q2
          rcases hcase with ⟨c1, c2, o', c3, c4⟩ | c1
          · rw [ho] at c3; injection c3 with c3; subst c3
            obtain ⟨v, v1, v2⟩ := k3 c4
            have hol : okLoad d st0.nx st1 o = true := by simpa [c4] using hc
            have hld := held_ld h0 (fun x hx => (hd x hx).2) hH1 hol
            refine wpAnyH_take ho hsel c2 (by simpa using c1) (fun c a w hq => absurd hq (hQ c _ w)) (.inl ⟨q1, fun w1 hw1 => v2 w1 (hld w1 hw1)⟩) hH.tch ?_
            refine h7 gS wS h0 hd g _ w Q hQ v1 ?_ hK
            exact ⟨hH1.keeps.trans ⟨fun id y1 y2 => k1.1 id y1 fun hm => y2 (hwr id hm), k1.2⟩, hH1.names, hH1.tch⟩
          · refine wpAnyH_all c1 (by simp) fun j hj => ?_
            simp only [List.mem_singleton] at hj; subst hj
            unfold wpOp
            rw [ho]
            simp only [q1, if_true]
            exact .inl (k2 _ _ fun g' a' w' hI' hg' ht' => by
              have hH2 := hH1.step (fun x hx => (hd x hx).1) hwr k1 hg' ht'
              exact ⟨hH2.tch, h7 gS wS h0 hd g' a' w' Q hQ hI' hH2 hK⟩)
      | false =>
        simp only [Bool.false_eq_true, if_false] at h1
        obtain ⟨st2, h3, hh2, hn2, h4⟩ := passed_ok (P := P) (w0 := w0) (L := L) (g0 := g0) (hp0 := hp0) h1
        obtain ⟨st', h6, h7⟩ := eopsD_ok hO hsel l f' _ st2 hp' h3
        refine ⟨st', h6, fun gS wS h0 hd g a w Q hQ hI hH hK => ?_⟩
        obtain ⟨q1, q2⟩ := h2 g a w hI
        have hH2 := (hH.same (st' := st1) hh1 hn1).same (st' := st2) hh2 hn2
        rcases hcase with ⟨c1, c2, o', c3, c4⟩ | c1
        · rw [ho] at c3; injection c3 with c3; subst c3
          exact wpAnyH_take ho hsel c2 (by simpa using c1) (fun c a w hq => absurd hq (hQ c _ w)) (.inr ⟨q1, rfl⟩) hH.tch (h7 gS wS h0 hd g _ w Q hQ (h4 g a w q2) hH2 hK)
        · refine wpAnyH_all c1 (by simp) fun j hj => ?_
          simp only [List.mem_singleton] at hj; subst hj
          unfold wpOp
          rw [ho]
          simp only [q1, Bool.false_eq_true, if_false]
          exact ⟨hH.tch, h7 gS wS h0 hd g _ w Q hQ (h4 g a w q2) hH2 hK⟩
omit [RowL P R] in
theorem dirty_ok {st : St R} {w : World} (h : HOK P w0 L st.nx st.hp g w) : ∀ (l : List Oper), ∀ x ∈ dirty st l, x < st.nx ∧ ∃ t cs, get st.hp x = some (.box t cs)
  | [], x, hx => by simp [dirty] at hx
  | o :: l, x, hx => by
    unfold dirty at hx
    repeat' split at hx
    all_goals first
      | exact dirty_ok h l x hx
      | (rcases List.mem_cons.1 hx with rfl | hx
         · rename_i hb; exact ⟨h.idH _ _ hb, _, _, hb⟩
         · exact dirty_ok h l x hx)
theorem eregion_ok {O : List (Cal R)} (hO : ∀ c ∈ O, Sound P c) (hm : P.follows .mixedOrders = true) {k : Nat} {Z : Type} {K : St R → Option Z} {z : Z} {id : Nat} {ops : Array Oper} {draw : Bool} (h : eregion P O k ops draw st K = some z) :
    ∃ st', K st' = some z ∧ ∀ g a w (Q : Exit → Act → World → Prop), (∀ c a w, ¬ Q (.panic c) a w) → Inv P w0 L g0 hp0 st g a w → (∀ g' a' w', Inv P w0 L g0 hp0 st' g' a' w' → Q .normal a' w') → (Code.region id ops draw).wp P Q a w := by
  unfold eregion at h
  cases draw with
  | false =>
    obtain ⟨st', h1, h2⟩ := eops_ok (w0 := w0) (L := L) (g0 := g0) (hp0 := hp0) hO _ st h
    exact ⟨st', h1, fun g a w Q _ hI hK => wp_region_list (h2 g a w Q hI hK)⟩
  | true =>
    simp only [cond_true] at h
    split at h
    case h_2 => simp at h
    rename_i l hl
    unfold plan at hl
    cases hs : Region.noSelect ops with
    | false => rw [hs] at hl; simp at hl
    | true =>
      rw [hs] at hl
      simp only [cond_true] at hl
      obtain ⟨st', h1, h2⟩ := eopsD_ok (w0 := w0) (L := L) (g0 := g0) (hp0 := hp0) hO hs l _ _ st hl h
      refine ⟨st', h1, fun g a w Q hQ hI hK => wp_region_held (S := Tch g (dirty st ops.toList) { w with drawn := w.drawn + 1 }) hm ?_⟩
      have hI1 : Inv P w0 L g0 hp0 st g a { w with drawn := w.drawn + 1 } := ⟨hI.defers, hI.size, hI.tm, hI.idT, hI.ep, hI.keep, hI.args, hI.na, hI.hpna, hI.heap.grow ⟨rfl, rfl, rfl, Nat.le_refl _, fun _ _ _ => rfl⟩⟩
      exact h2 g _ hI1.heap (dirty_ok hI1.heap ops.toList) g a _ Q hQ hI1 ⟨⟨fun _ _ _ => rfl, Nat.le_refl _⟩, fun _ _ => rfl, Tch.refl _ _ _⟩ hK
end
end Go.Proofs.YtmfgajbkcnlkcaaGreat.AI
namespace Go.Proofs.YtmfgajbkcnlkcaaGreat.AI
set_option linter.all false
open Go Go.RowKit
section
variable {R : Type} [RowT R] {P : Program} [RowL P R] {w0 : World} {L : Nat → Prop} {g0 : Nat → Value} {hp0 : List (Blk R)} {st st' : St R} {g g' : Nat → Value} {a : Act} {w w' : World}
def LW (P : Program) (c : Code) (Q : Exit → Act → World → Prop) (a : Act) (w : World) : Prop :=
  ∀ (b : Frame) (k : List Item) (cs : List Frame), ∃ e a' w', Q e a' w' ∧ Arrives P (lone (b.at a (.code c :: .inLoop c :: k)) cs w) b k cs e a' w'
omit [RowL P R] in
theorem lw_loop {c : Code} {Q : Exit → Act → World → Prop} (h : LW P c Q a w) : (Code.loop c).wp P Q a w := fun b k cs =>
  let ⟨e, a', w', hq, harr⟩ := h b k cs; ⟨e, a', w', hq, .of_steps (.one step_loop) harr⟩
theorem lw_body {P : Program} {a : Act} {w : World} {c : Code} {Q : Exit → Act → World → Prop} (h : c.wp P (Exit.then (LW P c Q) Q) a w) : LW P c Q a w := by
  intro b k cs
  obtain ⟨e, a₁, w₁, hq, harr⟩ := h b (.inLoop c :: k) cs
  cases e with
  | normal =>
    obtain ⟨e₂, a₂, w₂, hq₂, harr₂⟩ := hq b k cs
    exact ⟨e₂, a₂, w₂, hq₂, .of_steps (Steps.trans harr (.one step_inLoop)) harr₂⟩
  | exit id => exact ⟨_, a₁, w₁, hq, .pass (x := .inLoop c) rfl (fun _ _ => .inl (by simp)) harr⟩
  | goto l => exact ⟨_, a₁, w₁, hq, .pass (x := .inLoop c) rfl (fun _ _ => .inl (by simp)) harr⟩
  | ret => exact ⟨_, a₁, w₁, hq, .pass (x := .inLoop c) rfl (fun _ _ => .inl (by simp)) harr⟩
  | panic ch => exact ⟨_, a₁, w₁, hq, .pass (x := .inLoop c) rfl (fun _ _ => .inl (by simp)) harr⟩
  | outgrown => exact ⟨_, a₁, w₁, hq, .pass (x := .inLoop c) rfl (fun _ _ => .inl (by simp)) harr⟩
def qr (P : Program) (c : Code) (Q0 : Exit → Act → World → Prop) : List Bool → Exit → Act → World → Prop
  | [] => Q0
  | d :: p => match sub c p with
    | some (.seq _ b) => cond d (qr P c Q0 p) (Exit.then (b.wp P (qr P c Q0 p)) (qr P c Q0 p))
    | some (.block id _) => Exit.inBlock id (qr P c Q0 p)
    | some (.loop x) => Exit.then (LW P x (qr P c Q0 p)) (qr P c Q0 p)
    | _ => qr P c Q0 p
def NoPanic (Q : Exit → Act → World → Prop) : Prop := ∀ c a w, ¬ Q (.panic c) a w
theorem qr_np {P : Program} {c : Code} {Q0 : Exit → Act → World → Prop} (h : NoPanic Q0) : ∀ p, NoPanic (qr P c Q0 p)
  | [] => h
  | d :: p => by
    have ih := qr_np (P := P) (c := c) h p
    simp only [qr]
    split
    · cases d
      · exact ih
      · exact ih
    · exact ih
    · exact ih
    · exact ih
def Ex.out : Ex → Exit
  | .normal => .normal
  | .exit id => .exit id
  | .ret => .ret
def CutOK (P : Program) (root : Code) (Q0 : Exit → Act → World → Prop) (p : List Bool) (a : Act) (w : World) : Prop := match sub root p with
  | some (.loop x) => LW P x (qr P root Q0 p) a w
  | some (.cond t x y) => (Code.cond t x y).wp P (qr P root Q0 p) a w
  | some (.seq x y) => (Code.seq x y).wp P (qr P root Q0 p) a w
  | _ => False
theorem eqP_ok : ∀ {p q : List Bool}, eqP p q = true → p = q
  | [], [], _ => rfl
  | x :: p, y :: q, h => by
    simp only [eqP, Bool.and_eq_true, beq_iff_eq] at h
    rw [h.1, eqP_ok h.2]
  | [], _ :: _, h => by simp [eqP] at h
  | _ :: _, [], h => by simp [eqP] at h
omit [RowT R] in
theorem cutAt_ok : ∀ {cs : List (Cut R)} {p : List Bool} {c : Cut R}, cutAt cs p = some c → c ∈ cs ∧ c.p = p
  | [], p, c, h => by simp [cutAt] at h
  | x :: cs, p, c, h => by
    simp only [cutAt] at h
    cases hb : eqP x.p p with
    | true => rw [hb] at h; simp only [cond_true, Option.some.injEq] at h; subst h; exact ⟨List.mem_cons_self .., eqP_ok hb⟩
    | false => rw [hb] at h; obtain ⟨h1, h2⟩ := cutAt_ok (by simpa using h); exact ⟨List.mem_cons_of_mem _ h1, h2⟩
section body
variable {O : List (Cal R)} {cs : List (Cut R)} {k : Nat} {root : Code} {Q0 : Exit → Act → World → Prop} {out : Out R}
def Claim (P : Program) (w0 : World) (L : Nat → Prop) (g0 : Nat → Value) (hp0 : List (Blk R)) (root : Code) (Q0 : Exit → Act → World → Prop) (out : Out R) (cs : List (Cut R)) (k : Nat) : Prop :=
  ∀ c ∈ cs, ∀ st, c.f k st = some out → ∀ g a w, Inv P w0 L g0 hp0 st g a w → CutOK P root Q0 c.p a w
def KOK (P : Program) (w0 : World) (L : Nat → Prop) (g0 : Nat → Value) (hp0 : List (Blk R)) (out : Out R) (K : Ex → St R → Option (Out R)) (Q : Exit → Act → World → Prop) : Prop :=
  ∀ e st, K e st = some out → ∀ g a w, Inv P w0 L g0 hp0 st g a w → Q e.out a w
theorem stop_ok (hc : Claim P w0 L g0 hp0 root Q0 out cs k) {p : List Bool} {c : Cut R} (hp : cutAt cs p = some c) (h : stop k c st = some out) (hI : Inv P w0 L g0 hp0 st g a w) : CutOK P root Q0 p a w := by
  unfold stop at h
  split at h
  · rename_i st' hs
    obtain ⟨g', hI'⟩ := canon_ok hI hs
    obtain ⟨h1, h2⟩ := cutAt_ok hp
    have := hc c h1 st' h g' a w hI'
    rwa [h2] at this
  · simp at h
theorem ecode_ok (hO : ∀ c ∈ O, Sound P c) (hm : P.follows .mixedOrders = true) (hnp : NoPanic Q0) (hc : Claim P w0 L g0 hp0 root Q0 out cs k) : ∀ (c : Code) (p : List Bool) (st : St R) (K : Ex → St R → Option (Out R)),
    sub root p = some c → KOK P w0 L g0 hp0 out K (qr P root Q0 p) → ecode P O cs k c p st K = some out → ∀ g a w, Inv P w0 L g0 hp0 st g a w → c.wp P (qr P root Q0 p) a w := by
  intro c
  induction c with
  | skip => intro p st K hp hK h g a w hI; exact wp_skip (hK .normal st h g a w hI)
  | region id ops draw =>
    intro p st K hp hK h g a w hI
    simp only [ecode] at h
    obtain ⟨st', h1, h2⟩ := eregion_ok (w0 := w0) (L := L) (g0 := g0) (hp0 := hp0) (id := id) hO hm h
    exact h2 g a w _ (qr_np hnp p) hI fun g' a' w' hI' => hK .normal st' h1 g' a' w' hI'
  | seq x y ihx ihy =>
    intro p st K hp hK h g a w hI
    simp only [ecode] at h
    split at h
    · rename_i ct hcut
      have := stop_ok hc hcut h hI
      simp only [CutOK, hp] at this
      exact this
    · have e1 : qr P root Q0 (false :: p) = Exit.then (y.wp P (qr P root Q0 p)) (qr P root Q0 p) := by simp only [qr, hp, cond_false]
      have e2 : qr P root Q0 (true :: p) = qr P root Q0 p := by simp only [qr, hp, cond_true]
      have h1 := ihx (false :: p) st _ (by simp only [sub, hp, cond_false]) ?_ h g a w hI
      · rw [e1] at h1; exact wp_seq h1
      · rw [e1]
        intro e st1 h1 g1 a1 w1 hI1
        cases e with
        | normal => have h2 := ihy (true :: p) st1 K (by simp only [sub, hp, cond_true]) (by rw [e2]; exact hK) h1 g1 a1 w1 hI1
                    rw [e2] at h2; exact h2
        | exit id => exact hK (.exit id) st1 h1 g1 a1 w1 hI1
        | ret => exact hK .ret st1 h1 g1 a1 w1 hI1
  | cond t x y ihx ihy =>
    intro p st K hp hK h g a w hI
    have e1 : ∀ d, qr P root Q0 (d :: p) = qr P root Q0 p := fun d => by simp only [qr, hp]
    cases t with
    | tmp t =>
      simp only [ecode] at h
      split at h
      · rename_i ct hcut
        have := stop_ok hc hcut h hI
        simp only [CutOK, hp] at this
        exact this
      · obtain ⟨b, st1, h1, _, _, h2⟩ := part_ok (P := P) (w0 := w0) (L := L) (g0 := g0) (hp0 := hp0) h
        obtain ⟨q1, q2⟩ := h2 g a w hI
        refine wp_cond (t := b) (by simp [Act.eval, Array.getD_eq_getD_getElem?, q1]) ?_
        cases b with
        | true =>
          have h3 := ihx (false :: p) st1 K (by simp only [sub, hp, cond_false]) (by rw [e1]; exact hK) (by simpa using h1) g a w q2
          rw [e1] at h3; simpa using h3
        | false =>
          have h3 := ihy (true :: p) st1 K (by simp only [sub, hp, cond_true]) (by rw [e1]; exact hK) (by simpa using h1) g a w q2
          rw [e1] at h3; simpa using h3
    | const _ => simp [ecode] at h
    | global _ => simp [ecode] at h
    | func _ => simp [ecode] at h
  | block id x ih =>
    intro p st K hp hK h g a w hI
    simp only [ecode] at h
    have e1 : ∀ d, qr P root Q0 (d :: p) = Exit.inBlock id (qr P root Q0 p) := fun d => by simp only [qr, hp]
    have h1 := ih (false :: p) st _ (by simp only [sub, hp]) ?_ h g a w hI
    · rw [e1] at h1; exact wp_block h1
    · rw [e1]
      intro e st1 h1 g1 a1 w1 hI1
      cases e with
      | normal => exact hK .normal st1 h1 g1 a1 w1 hI1
      | exit j =>
        simp only at h1
        show (if j = id then qr P root Q0 p .normal a1 w1 else qr P root Q0 p (.exit j) a1 w1)
        cases hb : Nat.beq j id with
        | true => rw [hb] at h1; rw [if_pos (beq_true hb)]; exact hK .normal st1 h1 g1 a1 w1 hI1
        | false => rw [hb] at h1; rw [if_neg (fun e => by rw [e, Nat.beq_refl] at hb; simp at hb)]; exact hK (.exit j) st1 h1 g1 a1 w1 hI1
      | ret => exact hK .ret st1 h1 g1 a1 w1 hI1
  | loop x _ =>
    intro p st K hp hK h g a w hI
    simp only [ecode] at h
    split at h
    · rename_i ct hcut
      have := stop_ok hc hcut h hI
      simp only [CutOK, hp] at this
      exact lw_loop this
    · simp at h
  | exit id => intro p st K hp hK h g a w hI; exact wp_exit (hK (.exit id) st h g a w hI)
  | ret => intro p st K hp hK h g a w hI; exact wp_ret (hK .ret st h g a w hI)
  | _ => intro p st K hp hK h; simp [ecode] at h
theorem kr_ok (hO : ∀ c ∈ O, Sound P c) (hm : P.follows .mixedOrders = true) (hnp : NoPanic Q0) (hc : Claim P w0 L g0 hp0 root Q0 out cs k) {K0 : Ex → St R → Option (Out R)} (h0 : KOK P w0 L g0 hp0 out K0 Q0) :
    ∀ p, KOK P w0 L g0 hp0 out (kr P O cs k root K0 p) (qr P root Q0 p)
  | [] => h0
  | d :: p => by
    have ih := kr_ok hO hm hnp hc h0 p
    intro e st h g a w hI
    cases hp : sub root p with
    | none => simp [kr, hp] at h
    | some c =>
      cases c with
      | seq x y =>
        simp only [kr, hp] at h
        simp only [qr, hp]
        cases d with
        | true => exact ih e st h g a w hI
        | false =>
          simp only [cond_false] at h ⊢
          have e2 : qr P root Q0 (true :: p) = qr P root Q0 p := by simp only [qr, hp, cond_true]
          cases e with
          | normal =>
            have h2 := ecode_ok hO hm hnp hc y (true :: p) st _ (by simp only [sub, hp, cond_true]) (by rw [e2]; exact ih) h g a w hI
            rw [e2] at h2; exact h2
          | exit id => exact ih (.exit id) st h g a w hI
          | ret => exact ih .ret st h g a w hI
      | cond x y z => simp only [kr, hp] at h; simp only [qr, hp]; exact ih e st h g a w hI
      | block id x =>
        simp only [kr, hp] at h
        simp only [qr, hp]
        cases e with
        | normal => exact ih .normal st h g a w hI
        | exit j =>
          show (if j = id then qr P root Q0 p .normal a w else qr P root Q0 p (.exit j) a w)
          simp only at h
          cases hb : Nat.beq j id with
          | true => rw [hb] at h; rw [if_pos (beq_true hb)]; exact ih .normal st h g a w hI
          | false => rw [hb] at h; rw [if_neg (fun e => by rw [e, Nat.beq_refl] at hb; simp at hb)]; exact ih (.exit j) st h g a w hI
        | ret => exact ih .ret st h g a w hI
      | loop x =>
        simp only [kr, hp] at h
        simp only [qr, hp]
        cases e with
        | normal =>
          simp only at h
          split at h
          · rename_i ct hcut
            have := stop_ok hc hcut h hI
            simp only [CutOK, hp] at this
            exact this
          · simp at h
        | exit j => exact ih (.exit j) st h g a w hI
        | ret => exact ih .ret st h g a w hI
      | _ => simp [kr, hp] at h
theorem seg_ok (hO : ∀ c ∈ O, Sound P c) (hm : P.follows .mixedOrders = true) (hnp : NoPanic Q0) (hc : Claim P w0 L g0 hp0 root Q0 out cs k) {K0 : Ex → St R → Option (Out R)} (h0 : KOK P w0 L g0 hp0 out K0 Q0)
    {p : List Bool} (h : seg P O cs k root K0 p st = some out) (hI : Inv P w0 L g0 hp0 st g a w) : CutOK P root Q0 p a w := by
  unfold seg at h
  unfold CutOK
  split at h
  · rename_i x hp
    rw [hp]
    have e1 : qr P root Q0 (false :: p) = Exit.then (LW P x (qr P root Q0 p)) (qr P root Q0 p) := by simp only [qr, hp]
    have h1 := ecode_ok hO hm hnp hc x (false :: p) st _ (by simp only [sub, hp]) (kr_ok hO hm hnp hc h0 _) h g a w hI
    rw [e1] at h1
    exact lw_body h1
  · rename_i t x y hp
    rw [hp]
    have e1 : ∀ d, qr P root Q0 (d :: p) = qr P root Q0 p := fun d => by simp only [qr, hp]
    obtain ⟨b, st1, h1, _, _, h2⟩ := part_ok (P := P) (w0 := w0) (L := L) (g0 := g0) (hp0 := hp0) h
    obtain ⟨q1, q2⟩ := h2 g a w hI
    refine wp_cond (t := b) (by simp [Act.eval, Array.getD_eq_getD_getElem?, q1]) ?_
    have hk := kr_ok hO hm hnp hc h0 p
    cases b with
    | true =>
      have h3 := ecode_ok hO hm hnp hc x (false :: p) st1 _ (by simp only [sub, hp, cond_false]) (by rw [e1]; exact hk) (by simpa using h1) g a w q2
      rw [e1] at h3; simpa using h3
    | false =>
      have h3 := ecode_ok hO hm hnp hc y (true :: p) st1 _ (by simp only [sub, hp, cond_true]) (by rw [e1]; exact hk) (by simpa using h1) g a w q2
      rw [e1] at h3; simpa using h3
  · rename_i x y hp
    rw [hp]
    have e1 : qr P root Q0 (false :: p) = Exit.then (y.wp P (qr P root Q0 p)) (qr P root Q0 p) := by simp only [qr, hp, cond_false]
    have e2 : qr P root Q0 (true :: p) = qr P root Q0 p := by simp only [qr, hp, cond_true]
    have hk := kr_ok hO hm hnp hc h0 p
    have h1 := ecode_ok hO hm hnp hc x (false :: p) st _ (by simp only [sub, hp, cond_false]) (by
      rw [e1]
      intro e st1 h1 g1 a1 w1 hI1
      cases e with
      | normal => have h2 := ecode_ok hO hm hnp hc y (true :: p) st1 _ (by simp only [sub, hp, cond_true]) (by rw [e2]; exact hk) h1 g1 a1 w1 hI1
                  rw [e2] at h2; exact h2
      | exit id => exact hk (.exit id) st1 h1 g1 a1 w1 hI1
      | ret => exact hk .ret st1 h1 g1 a1 w1 hI1) h g a w hI
    rw [e1] at h1
    exact wp_seq h1
  · simp at h
theorem claim_ok (hO : ∀ c ∈ O, Sound P c) (hm : P.follows .mixedOrders = true) (hnp : NoPanic Q0) {K0 : Ex → St R → Option (Out R)} (h0 : KOK P w0 L g0 hp0 out K0 Q0) (hz : ∀ c ∈ cs, ∀ st, c.f 0 st = none)
    (hs : ∀ c ∈ cs, ∀ k st out, c.f (k + 1) st = some out → seg P O cs k root K0 c.p st = some out) : ∀ k, Claim P w0 L g0 hp0 root Q0 out cs k
  | 0 => fun c hc st h => by rw [hz c hc] at h; simp at h
  | k + 1 => fun c hc st h g a w hI => seg_ok hO hm hnp (claim_ok hO hm hnp h0 hz hs k) h0 (hs c hc k st out h) hI
end body
theorem number_get {α : Type} : ∀ (l : List α) (n i : Nat), get (number l n) i = if n ≤ i then l[i - n]? else none
  | [], n, i => by simp [number, get]
  | x :: l, n, i => by
    simp only [number]
    rw [get_cons, number_get l (n + 1) i]
    by_cases h : n = i
    · subst h; simp
    · rw [if_neg h]
      by_cases h2 : n ≤ i
      · rw [if_pos h2, if_pos (by omega), show i - n = (i - (n + 1)) + 1 by omega, List.getElem?_cons_succ]
      · rw [if_neg h2, if_neg (by omega)]
theorem number0 {α : Type} (l : List α) (i : Nat) : get (number l 0) i = l[i]? := by rw [number_get]; simp
omit [RowL P R] in
theorem start_ok {w : World} {g : Nat → Value} {args : List V} {hp : List (Blk R)} (h : ArgsOK P w g args hp) {nt : Nat} (hn : args.length ≤ nt) :
    Inv P w (fun n => ∃ (i : Nat) (b : Blk R), hp[i]? = some b ∧ b.mut ∧ HasB g i n b) g hp (start nt args hp) g { tmps := (args.map (concV g)).toArray ++ Array.replicate (nt - (args.map (concV g)).toArray.size) undef, defers := [] } w := by
  have hg : ∀ t v, get (start nt args hp).tm t = some v → args[t]? = some v := fun t v hv => by rwa [start, number0] at hv
  have hh : ∀ i, get (start nt args hp).hp i = hp[i]? := fun i => by rw [start, number0]
  refine ⟨rfl, by simp [start]; omega, fun t v hv _ => ?_, fun t v hv id hid => h.ids v (List.mem_of_getElem? (hg t v hv)) id hid, fun t v hv => (h.plain v (List.mem_of_getElem? (hg t v hv))).2, fun i b hb => ⟨b, by rw [hh]; exact hb, SameKind.refl (h.kind i b hb).dead, h.kind i b hb⟩, fun _ _ => rfl, Nat.le_refl _, rfl, ?_⟩
  · have h1 := hg t v hv
    have h2 : t < args.length := getElem?_lt h1
    rw [Array.getElem?_append_left (by simpa using h2)]
    simp [h1]
  · refine ⟨fun i b hb => h.idB i b (by rw [← hh]; exact hb), fun i b hb => ?_, fun i b hb => h.blk i b (by rw [← hh]; exact hb), fun i b i' b' n hb hb' => h.sep i b i' b' n (by rw [← hh]; exact hb) (by rw [← hh]; exact hb'), fun i b n hb hm hn => .inr ⟨i, b, by rw [← hh]; exact hb, hm, hn⟩, fun i hi => h.one i hi, ⟨rfl, rfl, rfl, Nat.le_refl _, fun _ _ _ => rfl⟩⟩
    exact getElem?_lt (by rw [← hh]; exact hb : hp[i]? = some b)
theorem fn_ok {O : List (Cal R)} (hO : ∀ c ∈ O, Sound P c) (hm : P.follows .mixedOrders = true) {f : FuncId} {fn : Func} {root : Code} {cs : List (Cut R)} (hf : P.funcs[f]? = some fn) (hb : fn.body = some root)
    (hz : ∀ c ∈ cs, ∀ st, c.f 0 st = none) (hs : ∀ c ∈ cs, ∀ k st out, c.f (k + 1) st = some out → seg P O cs k root (kEnd P fn.results.toList) c.p st = some out)
    {k : Nat} {args : List V} {hp : List (Blk R)} {out : Out R} (h : enter P O cs k fn root args hp = some out) : Good P f args hp out := by
  intro w g hA
  unfold enter at h
  cases hn : Nat.ble args.length fn.ntmps with
  | false => rw [hn] at h; simp at h
  | true =>
    rw [hn] at h
    simp only [cond_true] at h
    have hI := start_ok hA (Nat.le_of_ble_eq_true hn)
    refine calls_of_wp hf hb ?_
    have h0 : KOK P w (fun n => ∃ (i : Nat) (b : Blk R), hp[i]? = some b ∧ b.mut ∧ HasB g i n b) g hp out (kEnd P fn.results.toList) (bodyPost P fn fun e w' => ∃ c g', e = .returned c ∧ ResOK P w g hp out c w' g') := by
      intro e st hk g1 a1 w1 hI1
      have fin : ∀ hfin : finish P fn.results.toList st = some out, a1.defers = [] ∧ ∃ v, (results fn a1.tmps).run P w1 = .ok v w1 ∧ ∃ c g', Ending.returned v = .returned c ∧ ResOK P w g hp out c w1 g' := fun hfin => by
        obtain ⟨c, g', q1, q2⟩ := finish_ok hI1 hfin
        exact ⟨hI1.defers, c, q1, c, g', rfl, q2⟩
      cases e with
      | normal => exact fin hk
      | ret => exact fin hk
      | exit id => simp [kEnd] at hk
    have hnp : NoPanic (bodyPost P fn fun e w' => ∃ c g', e = .returned c ∧ ResOK P w g hp out c w' g') := by
      rintro c a w ⟨_, _, _, h, _⟩; cases h
    exact ecode_ok hO hm hnp (claim_ok hO hm hnp h0 hz hs k) root [] _ _ rfl h0 h g _ w hI
end
end Go.Proofs.YtmfgajbkcnlkcaaGreat.AI
namespace Go.Proofs.YtmfgajbkcnlkcaaGreat.AI
set_option linter.all false
open Go Go.RowKit
section
variable {R : Type} [RowT R] {P : Program} [RowL P R]
theorem ro_not_mut {b : Blk R} (h : isRo b = true) : ¬ b.mut := by
  cases b with
  | rows k r => cases k with
    | zero => exact fun h => h
    | succ k => simp [isRo] at h
  | box _ _ => simp [isRo] at h
  | dead => exact fun h => h
theorem ro_rows {b : Blk R} (h : isRo b = true) : ∃ r, b = .rows 0 r := by
  cases b with
  | rows k r => cases k with
    | zero => exact ⟨r, rfl⟩
    | succ k => simp [isRo] at h
  | box _ _ => simp [isRo] at h
  | dead => simp [isRo] at h
theorem args_ro {w : World} {g : Nat → Value} {args : List V} {hp : List (Blk R)} (hro : ∀ b ∈ hp, isRo b = true) (hids : ∀ v ∈ args, (∀ id ∈ idsV v, id < hp.length) ∧ v ≠ .no ∧ EpOK P (number hp 0) v)
    (hblk : ∀ (i : Nat) b, hp[i]? = some b → BlkOK P g w w.heap.size i b) : ArgsOK P w g args hp := by
  have ro : ∀ (i : Nat) b, hp[i]? = some b → ∃ r, b = .rows 0 r := fun i b hb => ro_rows (hro b (List.mem_of_getElem? hb))
  refine ⟨fun v hv => (hids v hv).1, fun i b hb j hj => ?_, hblk, fun i b i' b' n hb _ _ hm => ?_, fun i hi => ?_, fun i b hb => ?_, fun v hv => (hids v hv).2⟩
  · obtain ⟨r, rfl⟩ := ro i b hb; simp [idsB] at hj
  · exact absurd hm (ro_not_mut (hro b (List.mem_of_getElem? hb)))
  · obtain ⟨r, hr⟩ := ro i _ (List.getElem?_eq_getElem hi)
    have := hblk i _ (List.getElem?_eq_getElem hi)
    rw [hr] at this
    obtain ⟨A, c, hg, _⟩ := this
    rw [hg]; rfl
  · obtain ⟨r, rfl⟩ := ro i b hb; trivial
theorem good_ro {f : FuncId} {args : List V} {hp : List (Blk R)} {res : List W} (hro : ∀ b ∈ hp, isRo b = true) (hres : ∀ y ∈ res, idsW y = [])
    (h : ∀ w g, ArgsOK P w g args hp → Calls P f (args.map (concV g)).toArray w fun e w' => e = .returned (resC g res) ∧ Below w.heap.size w w') : Good P f args hp ⟨res, hp⟩ := by
  intro w g hA
  refine (h w g hA).mono ?_
  rintro e w' ⟨rfl, hb⟩
  refine ⟨_, g, rfl, rfl, fun _ _ => rfl, fun y hy id hid => by rw [hres y hy] at hid; simp at hid, hA.idB, fun i b hi => (hA.blk i b hi).move fun n hn => hb.block n ((hA.blk i b hi).lt hn), hA.sep, fun i b hi => ⟨b, hi, SameKind.refl (hA.kind i b hi).dead⟩, fun i b hi hib => ?_, hA.one, ⟨hb.os, hb.tape, hb.output, hb.size, fun k hk _ => hb.block k hk⟩⟩
  have := getElem?_lt hib
  exact absurd hi (by show ¬ hp.length ≤ i; have : i < hp.length := this; omega)
theorem own_block {w : World} {base n size : Nat} {t : TypeId} {v : Value} {cs : List Value} (h : w.ownsRow base t size v n cs) : v.oneCell' = true ∧ ∀ m, blkOf v = some m → base ≤ m := by
  rcases h.2 with ⟨hv, _⟩ | ⟨b, cap, cur, hv, hb, _⟩
  · subst hv; exact ⟨rfl, fun m hm => by simp [blkOf] at hm⟩
  · subst hv; exact ⟨rfl, fun m hm => by simp only [blkOf, Option.some.injEq] at hm; omega⟩
theorem good_new {f : FuncId} {args : List V} {hp : List (Blk R)} {r : R} (hro : ∀ b ∈ hp, isRo b = true)
    (h : ∀ w g, ArgsOK P w g args hp → Calls P f (args.map (concV g)).toArray w fun e w' => ∃ v, e = .returned v ∧ w'.ownsRow w.heap.size (RowT.ty r) (P.cellsOf (RowT.ty r)) v (RowT.len r) (flat r) ∧ Below w.heap.size w w') :
    Good P f args hp ⟨[.c (.rw hp.length)], hp ++ [.rows 2 r]⟩ := by
  intro w g hA
  refine (h w g hA).mono ?_
  rintro e w' ⟨v, rfl, hown, hb⟩
  obtain ⟨hone, hblk⟩ := own_block hown
  have hs : upd g hp.length v hp.length = v := upd_same ..
  have ho : ∀ i, i < hp.length → upd g hp.length v i = g i := fun i hi => upd_other g v (by omega)
  have cas : ∀ (i : Nat) b, (hp ++ [.rows 2 r])[i]? = some b → (hp[i]? = some b ∧ i < hp.length ∧ ∃ q, b = .rows 0 q) ∨ (i = hp.length ∧ b = .rows 2 r) := by
    intro i b hi
    rcases Nat.lt_or_ge i hp.length with q | q
    · rw [List.getElem?_append_left q] at hi; exact .inl ⟨hi, q, ro_rows (hro b (List.mem_of_getElem? hi))⟩
    · rw [List.getElem?_append_right q] at hi
      have := getElem?_lt hi
      have e0 : i - hp.length = 0 := by simpa using this
      rw [e0] at hi; simp only [List.getElem?_cons_zero, Option.some.injEq] at hi
      exact .inr ⟨by omega, hi.symm⟩
  have old : ∀ (i : Nat) b, hp[i]? = some b → BlkOK P (upd g hp.length v) w' w.heap.size i b := fun i b hi => by
    refine ((hA.blk i b hi).move fun n hn => hb.block n ((hA.blk i b hi).lt hn)).name (ho i (getElem?_lt hi)) fun j hj => ho j (hA.idB i b hi j hj)
  refine ⟨_, upd g hp.length v, rfl, by simp only [resC, concW, conc, hs], ho, fun y hy id hid => ?_, fun i b hi j hj => ?_, fun i b hi => ?_, fun i b i' b' n hi hi' hne hm hn => ?_, fun i b hi => ⟨b, by rw [List.getElem?_append_left (getElem?_lt hi)]; exact hi, SameKind.refl (hA.kind i b hi).dead⟩, fun i b hi hib => ?_, fun i hi => ?_, ⟨hb.os, hb.tape, hb.output, hb.size, fun k hk _ => hb.block k hk⟩⟩
  · simp only [List.mem_singleton] at hy; subst hy
    simp only [idsW, idsC, List.mem_singleton] at hid; subst hid
    simp
  · rcases cas i b hi with ⟨_, _, q, rfl⟩ | ⟨_, rfl⟩ <;> simp [idsB] at hj
  · rcases cas i b hi with ⟨h1, _, _⟩ | ⟨rfl, rfl⟩
    · exact old i b h1
    · show w'.ownsRow (if 1 = 1 then w.heap.size else 0) _ _ (upd g hp.length v hp.length) _ _
      rw [hs, if_pos rfl]; exact hown
  · rcases cas i b hi with ⟨_, _, q, rfl⟩ | ⟨rfl, rfl⟩
    · exact hm.elim
    · rcases cas i' b' hi' with ⟨h1, h2, q, rfl⟩ | ⟨rfl, _⟩
      · intro hn'
        have h3 := hblk n (by rw [← hs]; exact hn)
        rw [HasB.name (ho i' h2)] at hn'
        have := (hA.blk i' _ h1).lt hn'
        omega
      · exact absurd rfl hne
  · rcases cas i b hib with ⟨_, h2, _⟩ | ⟨rfl, rfl⟩
    · omega
    · exact ⟨⟨r, rfl⟩, fun n hn => hblk n (by rw [← hs]; exact hn)⟩
  · simp only [List.length_append, List.length_singleton] at hi
    rcases Nat.lt_or_ge i hp.length with q | q
    · rw [ho i q]; exact hA.one i q
    · rw [show i = hp.length by omega, hs]; exact hone
omit [RowL P R] in
theorem calls_ro {f : FuncId} {args : List V} {hp : List (Blk R)} {out : Out R} {w : World} {g : Nat → Value} (hro : ∀ b ∈ hp, isRo b = true) (hres : ∀ y ∈ out.res, idsW y = []) (h : Good P f args hp out) (hA : ArgsOK P w g args hp) :
    Calls P f (args.map (concV g)).toArray w fun e w' => e = .returned (resC g out.res) ∧ Below w.heap.size w w' := by
  refine (h w g hA).mono ?_
  rintro e w' ⟨c, g', rfl, hr⟩
  refine ⟨by rw [hr.val, resC_congr (G := g') (G' := g)]; exact List.map_congr_left fun y hy => concW_congr fun id hid => by rw [hres y hy] at hid; simp at hid, hr.frame.os, hr.frame.tape, hr.frame.output, hr.frame.size, fun k hk => hr.frame.block k hk ?_⟩
  rintro ⟨i, b, hb, hm, _⟩
  exact ro_not_mut (hro b (List.mem_of_getElem? hb)) hm
theorem sound_of {f : FuncId} {lent : Bool} {sem : Mean R} (fn : ∃ fn, P.funcs[f]? = some fn ∧ (fn.name == "runtime.NumGoroutine") = false ∧ fn.body.isNone = false)
    (ok : ∀ (k : Nat) (args : List V) (hp : List (Blk R)) (Z : Type) (K : Out R → Option Z) (z : Z), sem k args hp Z K = some z → ∃ out, K out = some z ∧ Good P f args hp out) : Sound P ⟨f, lent, sem⟩ := ⟨fn, ok⟩
def body (f : Func) : Code := f.body.getD .skip
def Lo {Z : Type} (a b : Option Z) : Prop := ∀ z, b = some z → a = some z
theorem Lo.of {Z : Type} {a b c : Option Z} (e : a = b) (h : Lo b c) : Lo a c := e ▸ h
theorem Lo.refl {Z : Type} (a : Option Z) : Lo a a := fun _ h => h
theorem Lo.eq {Z : Type} {a b : Option Z} (e : a = b) : Lo a b := fun _ h => e.trans h
theorem ite_I {X Z : Type} {p q : Prop} {i : Decidable p} {j : Decidable q} {a b : Option Z} {c d : Option X} {f : X → Option Z} (e : p ↔ q) (h : p → Lo a (c.bind f)) (h' : ¬p → Lo b (d.bind f)) : Lo (@ite _ p i a b) (Option.bind (@ite _ q j c d) f) := by
  by_cases t : p
  · rw [if_pos t, if_pos (e.1 t)]; exact h t
  · rw [if_neg t, if_neg (fun u => t (e.2 u))]; exact h' t
theorem ite_L {X Z : Type} {p : Prop} {i : Decidable p} {a b : Option Z} {c d : Option X} {f : X → Option Z} (h : p → Lo a (c.bind f)) (h' : ¬p → Lo b (d.bind f)) : Lo (@ite _ p i a b) (Option.bind (@ite _ p i c d) f) := ite_I Iff.rfl h h'
theorem drop_L {Z : Type} {p : Prop} {i : Decidable p} {a b c : Option Z} (q : p) (h : Lo a c) : Lo (@ite _ p i a b) c := by rw [if_pos q]; exact h
theorem bind_L {X Y Z : Type} {x : Option Y} {g' : Y → Option Z} {g : Y → Option X} {f : X → Option Z} (h : ∀ y, Lo (g' y) ((g y).bind f)) : Lo (x.bind g') ((x.bind g).bind f) := by
  cases x with
  | none => exact Lo.refl _
  | some y => exact h y
theorem some_L {X Z : Type} {a : X} {f : X → Option Z} {z : Option Z} (h : Lo z (f a)) : Lo z ((some a).bind f) := h
theorem let_L {X Y Z : Type} {a : Y} {g : Y → Option X} {f : X → Option Z} {z : Option Z} (h : Lo z ((g a).bind f)) : Lo z (((some a).bind g).bind f) := h
theorem letB_L {X Y Z : Type} {a : Y} {g' : Y → Option Z} {g : Y → Option X} {f : X → Option Z} (h : ∀ y, y = a → Lo (g' y) ((g y).bind f)) : Lo ((some a).bind g') (((some a).bind g).bind f) := h a rfl
theorem letT_L {Y Z : Type} {a : Y} {g : Y → Option Z} {c : Option Z} (h : Lo (g a) c) : Lo ((some a).bind g) c := h
theorem none_L {X Z : Type} {f : X → Option Z} {z : Option Z} : Lo z ((none : Option X).bind f) := fun _ e => by simp at e
end
end Go.Proofs.YtmfgajbkcnlkcaaGreat.AI
namespace Go.Proofs.YtmfgajbkcnlkcaaGreat.AI
set_option linter.all false
open Go Go.RowKit Go.Proofs.YtmfgajbkcnlkcaaGreatW.PrintWords Go.Proofs.YtmfgajbkcnlkcaaGreat.P
inductive Rw where
  | e60 (l : List S60)
  | e80 (l : List S80)
  | e84 (l : List S84)
  | e93 (l : List S93)
  | e103 (l : List S103)
  | e105 (l : List S105)
  | e106 (l : List S106)
  | e108 (l : List S108)
  | e110 (l : List S110)
  | e112 (l : List S112)
  | e114 (l : List S114)
  | eI (l : List Int)
def n60 (x : S60) : List Sc := [.i .i64 x.f0, .i .i64 x.f1, .i .i64 x.f2, .i .i64 x.f3, .i .i64 x.f4, .i .i64 x.f5, .i .i64 x.f6, .i .i64 x.f7]
def m60 : List Sc → Option S60
  | [.i .i64 f0, .i .i64 f1, .i .i64 f2, .i .i64 f3, .i .i64 f4, .i .i64 f5, .i .i64 f6, .i .i64 f7] => some ⟨f0, f1, f2, f3, f4, f5, f6, f7⟩
  | _ => none
theorem m60_eq {c : List Sc} {x : S60} (h : m60 c = some x) : n60 x = c := by
  unfold m60 at h
  split at h
  · simp only [Option.some.injEq] at h; subst h; rfl
  · simp at h
theorem n60_eq {w : World} {x : S60} {cs : List Value} : k60.K w x cs ↔ cs = (n60 x).map Sc.v := ⟨fun h => k60_open h, fun h => h ▸ k60_mk w x⟩
theorem n60_eqM {w : World} {base : Nat} {ok : Nat → Prop} {x : S60} {cs : List Value} : k60.M w base ok x cs ↔ cs = (n60 x).map Sc.v := ⟨fun h => k60_openM h, fun h => h ▸ k60_mkM w base ok x⟩
theorem j60 : (Tryz.prog.info? 60).map (fun i => (i.zero, i.size, i.bytes)) = some (some (.agg #[.int .i64 0, .int .i64 0, .int .i64 0, .int .i64 0, .int .i64 0, .int .i64 0, .int .i64 0, .int .i64 0]), 8, 64) := by kernel_rfl
theorem i60_eq : ∃ i z, Tryz.prog.info? 60 = some i ∧ i.zero = some z ∧ z.cells.size = i.size ∧ z.cells.toList = (n60 z60).map Sc.v ∧ i.size = 8 ∧ 0 < i.bytes := by
  have h := j60
  cases hi : Tryz.prog.info? 60 with
  | none => rw [hi] at h; simp at h
  | some i =>
    rw [hi] at h
    simp only [Option.map_some, Option.some.injEq, Prod.mk.injEq] at h
    obtain ⟨h1, h2, h3⟩ := h
    exact ⟨i, _, rfl, h1, by rw [h2]; rfl, rfl, h2, by omega⟩
def n80 (x : S80) : List Sc := [.i .i64 x.f0, .i .i64 x.f1]
def m80 : List Sc → Option S80
  | [.i .i64 f0, .i .i64 f1] => some ⟨f0, f1⟩
  | _ => none
theorem m80_eq {c : List Sc} {x : S80} (h : m80 c = some x) : n80 x = c := by
  unfold m80 at h
  split at h
  · simp only [Option.some.injEq] at h; subst h; rfl
  · simp at h
theorem n80_eq {w : World} {x : S80} {cs : List Value} : k80.K w x cs ↔ cs = (n80 x).map Sc.v := ⟨fun h => k80_open h, fun h => h ▸ k80_mk w x⟩
theorem n80_eqM {w : World} {base : Nat} {ok : Nat → Prop} {x : S80} {cs : List Value} : k80.M w base ok x cs ↔ cs = (n80 x).map Sc.v := ⟨fun h => k80_openM h, fun h => h ▸ k80_mkM w base ok x⟩
theorem j80 : (Tryz.prog.info? 80).map (fun i => (i.zero, i.size, i.bytes)) = some (some (.agg #[.int .i64 0, .int .i64 0]), 2, 16) := by kernel_rfl
theorem i80_eq : ∃ i z, Tryz.prog.info? 80 = some i ∧ i.zero = some z ∧ z.cells.size = i.size ∧ z.cells.toList = (n80 z80).map Sc.v ∧ i.size = 2 ∧ 0 < i.bytes := by
  have h := j80
  cases hi : Tryz.prog.info? 80 with
  | none => rw [hi] at h; simp at h
  | some i =>
    rw [hi] at h
    simp only [Option.map_some, Option.some.injEq, Prod.mk.injEq] at h
    obtain ⟨h1, h2, h3⟩ := h
    exact ⟨i, _, rfl, h1, by rw [h2]; rfl, rfl, h2, by omega⟩
def n84 (x : S84) : List Sc := [.i .i64 x.f0, .i .i64 x.f1]
def m84 : List Sc → Option S84
  | [.i .i64 f0, .i .i64 f1] => some ⟨f0, f1⟩
  | _ => none
theorem m84_eq {c : List Sc} {x : S84} (h : m84 c = some x) : n84 x = c := by
  unfold m84 at h
  split at h
  · simp only [Option.some.injEq] at h; subst h; rfl
  · simp at h
theorem n84_eq {w : World} {x : S84} {cs : List Value} : k84.K w x cs ↔ cs = (n84 x).map Sc.v := ⟨fun h => k84_open h, fun h => h ▸ k84_mk w x⟩
theorem n84_eqM {w : World} {base : Nat} {ok : Nat → Prop} {x : S84} {cs : List Value} : k84.M w base ok x cs ↔ cs = (n84 x).map Sc.v := ⟨fun h => k84_openM h, fun h => h ▸ k84_mkM w base ok x⟩
theorem j84 : (Tryz.prog.info? 84).map (fun i => (i.zero, i.size, i.bytes)) = some (some (.agg #[.int .i64 0, .int .i64 0]), 2, 16) := by kernel_rfl
theorem i84_eq : ∃ i z, Tryz.prog.info? 84 = some i ∧ i.zero = some z ∧ z.cells.size = i.size ∧ z.cells.toList = (n84 z84).map Sc.v ∧ i.size = 2 ∧ 0 < i.bytes := by
  have h := j84
  cases hi : Tryz.prog.info? 84 with
  | none => rw [hi] at h; simp at h
  | some i =>
    rw [hi] at h
    simp only [Option.map_some, Option.some.injEq, Prod.mk.injEq] at h
    obtain ⟨h1, h2, h3⟩ := h
    exact ⟨i, _, rfl, h1, by rw [h2]; rfl, rfl, h2, by omega⟩
def n93 (x : S93) : List Sc := [.i .i64 x.f0, .i .i64 x.f1, .i .i64 x.f2]
def m93 : List Sc → Option S93
  | [.i .i64 f0, .i .i64 f1, .i .i64 f2] => some ⟨f0, f1, f2⟩
  | _ => none
theorem m93_eq {c : List Sc} {x : S93} (h : m93 c = some x) : n93 x = c := by
  unfold m93 at h
  split at h
  · simp only [Option.some.injEq] at h; subst h; rfl
  · simp at h
theorem n93_eq {w : World} {x : S93} {cs : List Value} : k93.K w x cs ↔ cs = (n93 x).map Sc.v := ⟨fun h => k93_open h, fun h => h ▸ k93_mk w x⟩
theorem j93 : (Tryz.prog.info? 93).map (fun i => (i.zero, i.size, i.bytes)) = some (some (.agg #[.int .i64 0, .int .i64 0, .int .i64 0]), 3, 24) := by kernel_rfl
theorem i93_eq : ∃ i z, Tryz.prog.info? 93 = some i ∧ i.zero = some z ∧ z.cells.size = i.size ∧ z.cells.toList = (n93 z93).map Sc.v ∧ i.size = 3 ∧ 0 < i.bytes := by
  have h := j93
  cases hi : Tryz.prog.info? 93 with
  | none => rw [hi] at h; simp at h
  | some i =>
    rw [hi] at h
    simp only [Option.map_some, Option.some.injEq, Prod.mk.injEq] at h
    obtain ⟨h1, h2, h3⟩ := h
    exact ⟨i, _, rfl, h1, by rw [h2]; rfl, rfl, h2, by omega⟩
def n103 (x : S103) : List Sc := [.i .i64 x.f0, .i .i64 x.f1]
def m103 : List Sc → Option S103
  | [.i .i64 f0, .i .i64 f1] => some ⟨f0, f1⟩
  | _ => none
theorem m103_eq {c : List Sc} {x : S103} (h : m103 c = some x) : n103 x = c := by
  unfold m103 at h
  split at h
  · simp only [Option.some.injEq] at h; subst h; rfl
  · simp at h
theorem n103_eq {w : World} {x : S103} {cs : List Value} : k103.K w x cs ↔ cs = (n103 x).map Sc.v := ⟨fun h => k103_open h, fun h => h ▸ k103_mk w x⟩
theorem j103 : (Tryz.prog.info? 103).map (fun i => (i.zero, i.size, i.bytes)) = some (some (.agg #[.int .i64 0, .int .i64 0]), 2, 16) := by kernel_rfl
theorem i103_eq : ∃ i z, Tryz.prog.info? 103 = some i ∧ i.zero = some z ∧ z.cells.size = i.size ∧ z.cells.toList = (n103 z103).map Sc.v ∧ i.size = 2 ∧ 0 < i.bytes := by
  have h := j103
  cases hi : Tryz.prog.info? 103 with
  | none => rw [hi] at h; simp at h
  | some i =>
    rw [hi] at h
    simp only [Option.map_some, Option.some.injEq, Prod.mk.injEq] at h
    obtain ⟨h1, h2, h3⟩ := h
    exact ⟨i, _, rfl, h1, by rw [h2]; rfl, rfl, h2, by omega⟩
def n105 (x : S105) : List Sc := [.i .i64 x.f0, .i .i64 x.f1]
def m105 : List Sc → Option S105
  | [.i .i64 f0, .i .i64 f1] => some ⟨f0, f1⟩
  | _ => none
theorem m105_eq {c : List Sc} {x : S105} (h : m105 c = some x) : n105 x = c := by
  unfold m105 at h
  split at h
  · simp only [Option.some.injEq] at h; subst h; rfl
  · simp at h
theorem n105_eq {w : World} {x : S105} {cs : List Value} : k105.K w x cs ↔ cs = (n105 x).map Sc.v := ⟨fun h => k105_open h, fun h => h ▸ k105_mk w x⟩
theorem j105 : (Tryz.prog.info? 105).map (fun i => (i.zero, i.size, i.bytes)) = some (some (.agg #[.int .i64 0, .int .i64 0]), 2, 16) := by kernel_rfl
theorem i105_eq : ∃ i z, Tryz.prog.info? 105 = some i ∧ i.zero = some z ∧ z.cells.size = i.size ∧ z.cells.toList = (n105 z105).map Sc.v ∧ i.size = 2 ∧ 0 < i.bytes := by
  have h := j105
  cases hi : Tryz.prog.info? 105 with
  | none => rw [hi] at h; simp at h
  | some i =>
    rw [hi] at h
    simp only [Option.map_some, Option.some.injEq, Prod.mk.injEq] at h
    obtain ⟨h1, h2, h3⟩ := h
    exact ⟨i, _, rfl, h1, by rw [h2]; rfl, rfl, h2, by omega⟩
def n106 (x : S106) : List Sc := [.i .i64 x.f0, .i .i64 x.f1, .i .i64 x.f2]
def m106 : List Sc → Option S106
  | [.i .i64 f0, .i .i64 f1, .i .i64 f2] => some ⟨f0, f1, f2⟩
  | _ => none
theorem m106_eq {c : List Sc} {x : S106} (h : m106 c = some x) : n106 x = c := by
  unfold m106 at h
  split at h
  · simp only [Option.some.injEq] at h; subst h; rfl
  · simp at h
theorem n106_eq {w : World} {x : S106} {cs : List Value} : k106.K w x cs ↔ cs = (n106 x).map Sc.v := ⟨fun h => k106_open h, fun h => h ▸ k106_mk w x⟩
theorem n106_eqM {w : World} {base : Nat} {ok : Nat → Prop} {x : S106} {cs : List Value} : k106.M w base ok x cs ↔ cs = (n106 x).map Sc.v := ⟨fun h => k106_openM h, fun h => h ▸ k106_mkM w base ok x⟩
theorem j106 : (Tryz.prog.info? 106).map (fun i => (i.zero, i.size, i.bytes)) = some (some (.agg #[.int .i64 0, .int .i64 0, .int .i64 0]), 3, 24) := by kernel_rfl
theorem i106_eq : ∃ i z, Tryz.prog.info? 106 = some i ∧ i.zero = some z ∧ z.cells.size = i.size ∧ z.cells.toList = (n106 z106).map Sc.v ∧ i.size = 3 ∧ 0 < i.bytes := by
  have h := j106
  cases hi : Tryz.prog.info? 106 with
  | none => rw [hi] at h; simp at h
  | some i =>
    rw [hi] at h
    simp only [Option.map_some, Option.some.injEq, Prod.mk.injEq] at h
    obtain ⟨h1, h2, h3⟩ := h
    exact ⟨i, _, rfl, h1, by rw [h2]; rfl, rfl, h2, by omega⟩
def n108 (x : S108) : List Sc := [.i .i64 x.f0, .i .i64 x.f1, .i .i64 x.f2]
def m108 : List Sc → Option S108
  | [.i .i64 f0, .i .i64 f1, .i .i64 f2] => some ⟨f0, f1, f2⟩
  | _ => none
theorem m108_eq {c : List Sc} {x : S108} (h : m108 c = some x) : n108 x = c := by
  unfold m108 at h
  split at h
  · simp only [Option.some.injEq] at h; subst h; rfl
  · simp at h
theorem n108_eq {w : World} {x : S108} {cs : List Value} : k108.K w x cs ↔ cs = (n108 x).map Sc.v := ⟨fun h => k108_open h, fun h => h ▸ k108_mk w x⟩
theorem j108 : (Tryz.prog.info? 108).map (fun i => (i.zero, i.size, i.bytes)) = some (some (.agg #[.int .i64 0, .int .i64 0, .int .i64 0]), 3, 24) := by kernel_rfl
theorem i108_eq : ∃ i z, Tryz.prog.info? 108 = some i ∧ i.zero = some z ∧ z.cells.size = i.size ∧ z.cells.toList = (n108 z108).map Sc.v ∧ i.size = 3 ∧ 0 < i.bytes := by
  have h := j108
  cases hi : Tryz.prog.info? 108 with
  | none => rw [hi] at h; simp at h
  | some i =>
    rw [hi] at h
    simp only [Option.map_some, Option.some.injEq, Prod.mk.injEq] at h
    obtain ⟨h1, h2, h3⟩ := h
    exact ⟨i, _, rfl, h1, by rw [h2]; rfl, rfl, h2, by omega⟩
def n110 (x : S110) : List Sc := [.i .i64 x.f0, .i .i64 x.f1, .i .i64 x.f2, .i .i64 x.f3, .i .i64 x.f4]
def m110 : List Sc → Option S110
  | [.i .i64 f0, .i .i64 f1, .i .i64 f2, .i .i64 f3, .i .i64 f4] => some ⟨f0, f1, f2, f3, f4⟩
  | _ => none
theorem m110_eq {c : List Sc} {x : S110} (h : m110 c = some x) : n110 x = c := by
  unfold m110 at h
  split at h
  · simp only [Option.some.injEq] at h; subst h; rfl
  · simp at h
theorem n110_eq {w : World} {x : S110} {cs : List Value} : k110.K w x cs ↔ cs = (n110 x).map Sc.v := ⟨fun h => k110_open h, fun h => h ▸ k110_mk w x⟩
theorem n110_eqM {w : World} {base : Nat} {ok : Nat → Prop} {x : S110} {cs : List Value} : k110.M w base ok x cs ↔ cs = (n110 x).map Sc.v := ⟨fun h => k110_openM h, fun h => h ▸ k110_mkM w base ok x⟩
theorem j110 : (Tryz.prog.info? 110).map (fun i => (i.zero, i.size, i.bytes)) = some (some (.agg #[.int .i64 0, .int .i64 0, .int .i64 0, .int .i64 0, .int .i64 0]), 5, 40) := by kernel_rfl
theorem i110_eq : ∃ i z, Tryz.prog.info? 110 = some i ∧ i.zero = some z ∧ z.cells.size = i.size ∧ z.cells.toList = (n110 z110).map Sc.v ∧ i.size = 5 ∧ 0 < i.bytes := by
  have h := j110
  cases hi : Tryz.prog.info? 110 with
  | none => rw [hi] at h; simp at h
  | some i =>
    rw [hi] at h
    simp only [Option.map_some, Option.some.injEq, Prod.mk.injEq] at h
    obtain ⟨h1, h2, h3⟩ := h
    exact ⟨i, _, rfl, h1, by rw [h2]; rfl, rfl, h2, by omega⟩
def n112 (x : S112) : List Sc := [.i .i64 x.f0, .i .i64 x.f1, .i .i64 x.f2, .i .i64 x.f3, .i .i64 x.f4]
def m112 : List Sc → Option S112
  | [.i .i64 f0, .i .i64 f1, .i .i64 f2, .i .i64 f3, .i .i64 f4] => some ⟨f0, f1, f2, f3, f4⟩
  | _ => none
theorem m112_eq {c : List Sc} {x : S112} (h : m112 c = some x) : n112 x = c := by
  unfold m112 at h
  split at h
  · simp only [Option.some.injEq] at h; subst h; rfl
  · simp at h
theorem n112_eq {w : World} {x : S112} {cs : List Value} : k112.K w x cs ↔ cs = (n112 x).map Sc.v := ⟨fun h => k112_open h, fun h => h ▸ k112_mk w x⟩
theorem j112 : (Tryz.prog.info? 112).map (fun i => (i.zero, i.size, i.bytes)) = some (some (.agg #[.int .i64 0, .int .i64 0, .int .i64 0, .int .i64 0, .int .i64 0]), 5, 40) := by kernel_rfl
theorem i112_eq : ∃ i z, Tryz.prog.info? 112 = some i ∧ i.zero = some z ∧ z.cells.size = i.size ∧ z.cells.toList = (n112 z112).map Sc.v ∧ i.size = 5 ∧ 0 < i.bytes := by
  have h := j112
  cases hi : Tryz.prog.info? 112 with
  | none => rw [hi] at h; simp at h
  | some i =>
    rw [hi] at h
    simp only [Option.map_some, Option.some.injEq, Prod.mk.injEq] at h
    obtain ⟨h1, h2, h3⟩ := h
    exact ⟨i, _, rfl, h1, by rw [h2]; rfl, rfl, h2, by omega⟩
def n114 (x : S114) : List Sc := [.i .i64 x.f0, .i .i64 x.f1, .i .i64 x.f2, .i .i64 x.f3, .i .i64 x.f4, .i .i64 x.f5, .i .i64 x.f6, .i .i64 x.f7]
def m114 : List Sc → Option S114
  | [.i .i64 f0, .i .i64 f1, .i .i64 f2, .i .i64 f3, .i .i64 f4, .i .i64 f5, .i .i64 f6, .i .i64 f7] => some ⟨f0, f1, f2, f3, f4, f5, f6, f7⟩
  | _ => none
theorem m114_eq {c : List Sc} {x : S114} (h : m114 c = some x) : n114 x = c := by
  unfold m114 at h
  split at h
  · simp only [Option.some.injEq] at h; subst h; rfl
  · simp at h
theorem n114_eq {w : World} {x : S114} {cs : List Value} : k114.K w x cs ↔ cs = (n114 x).map Sc.v := ⟨fun h => k114_open h, fun h => h ▸ k114_mk w x⟩
theorem j114 : (Tryz.prog.info? 114).map (fun i => (i.zero, i.size, i.bytes)) = some (some (.agg #[.int .i64 0, .int .i64 0, .int .i64 0, .int .i64 0, .int .i64 0, .int .i64 0, .int .i64 0, .int .i64 0]), 8, 64) := by kernel_rfl
theorem i114_eq : ∃ i z, Tryz.prog.info? 114 = some i ∧ i.zero = some z ∧ z.cells.size = i.size ∧ z.cells.toList = (n114 z114).map Sc.v ∧ i.size = 8 ∧ 0 < i.bytes := by
  have h := j114
  cases hi : Tryz.prog.info? 114 with
  | none => rw [hi] at h; simp at h
  | some i =>
    rw [hi] at h
    simp only [Option.map_some, Option.some.injEq, Prod.mk.injEq] at h
    obtain ⟨h1, h2, h3⟩ := h
    exact ⟨i, _, rfl, h1, by rw [h2]; rfl, rfl, h2, by omega⟩
def nI (x : Int) : List Sc := [.i .i64 x]
def mI : List Sc → Option Int
  | [.i .i64 x] => some x
  | _ => none
theorem mI_eq {c : List Sc} {x : Int} (h : mI c = some x) : nI x = c := by
  unfold mI at h
  split at h
  · simp only [Option.some.injEq] at h; subst h; rfl
  · simp at h
theorem j3 : (Tryz.prog.info? 3).map (fun i => (i.zero, i.size, i.bytes)) = some (some (.int .i64 0), 1, 8) := by kernel_rfl
theorem iI_eq : ∃ i z, Tryz.prog.info? 3 = some i ∧ i.zero = some z ∧ z.cells.size = i.size ∧ z.cells.toList = (nI 0).map Sc.v ∧ i.size = 1 ∧ 0 < i.bytes := by
  have h := j3
  cases hi : Tryz.prog.info? 3 with
  | none => rw [hi] at h; simp at h
  | some i =>
    rw [hi] at h
    simp only [Option.map_some, Option.some.injEq, Prod.mk.injEq] at h
    obtain ⟨h1, h2, h3⟩ := h
    exact ⟨i, _, rfl, h1, by rw [h2]; rfl, rfl, h2, by omega⟩
instance : RowT Rw where
  ty := fun
    | .e60 _ => 60
    | .e80 _ => 80
    | .e84 _ => 84
    | .e93 _ => 93
    | .e103 _ => 103
    | .e105 _ => 105
    | .e106 _ => 106
    | .e108 _ => 108
    | .e110 _ => 110
    | .e112 _ => 112
    | .e114 _ => 114
    | .eI _ => 3
  cel := fun
    | .e60 l => l.map n60
    | .e80 l => l.map n80
    | .e84 l => l.map n84
    | .e93 l => l.map n93
    | .e103 l => l.map n103
    | .e105 l => l.map n105
    | .e106 l => l.map n106
    | .e108 l => l.map n108
    | .e110 l => l.map n110
    | .e112 l => l.map n112
    | .e114 l => l.map n114
    | .eI l => l.map nI
  len := fun
    | .e60 l => l.length
    | .e80 l => l.length
    | .e84 l => l.length
    | .e93 l => l.length
    | .e103 l => l.length
    | .e105 l => l.length
    | .e106 l => l.length
    | .e108 l => l.length
    | .e110 l => l.length
    | .e112 l => l.length
    | .e114 l => l.length
    | .eI l => l.length
  elt := fun
    | .e60 l, i => n60 (l.getD i z60)
    | .e80 l, i => n80 (l.getD i z80)
    | .e84 l, i => n84 (l.getD i z84)
    | .e93 l, i => n93 (l.getD i z93)
    | .e103 l, i => n103 (l.getD i z103)
    | .e105 l, i => n105 (l.getD i z105)
    | .e106 l, i => n106 (l.getD i z106)
    | .e108 l, i => n108 (l.getD i z108)
    | .e110 l, i => n110 (l.getD i z110)
    | .e112 l, i => n112 (l.getD i z112)
    | .e114 l, i => n114 (l.getD i z114)
    | .eI l, i => nI (l.getD i 0)
  nil := fun t => cond (Nat.beq t 60) (some (.e60 [])) (cond (Nat.beq t 80) (some (.e80 [])) (cond (Nat.beq t 84) (some (.e84 [])) (cond (Nat.beq t 93) (some (.e93 [])) (cond (Nat.beq t 103) (some (.e103 [])) (cond (Nat.beq t 105) (some (.e105 [])) (cond (Nat.beq t 106) (some (.e106 [])) (cond (Nat.beq t 108) (some (.e108 [])) (cond (Nat.beq t 110) (some (.e110 [])) (cond (Nat.beq t 112) (some (.e112 [])) (cond (Nat.beq t 114) (some (.e114 [])) (cond (Nat.beq t 3) (some (.eI [])) (none))))))))))))
  zer := fun t n => cond (Nat.beq t 60) (some (.e60 (List.replicate n z60))) (cond (Nat.beq t 80) (some (.e80 (List.replicate n z80))) (cond (Nat.beq t 84) (some (.e84 (List.replicate n z84))) (cond (Nat.beq t 93) (some (.e93 (List.replicate n z93))) (cond (Nat.beq t 103) (some (.e103 (List.replicate n z103))) (cond (Nat.beq t 105) (some (.e105 (List.replicate n z105))) (cond (Nat.beq t 106) (some (.e106 (List.replicate n z106))) (cond (Nat.beq t 108) (some (.e108 (List.replicate n z108))) (cond (Nat.beq t 110) (some (.e110 (List.replicate n z110))) (cond (Nat.beq t 112) (some (.e112 (List.replicate n z112))) (cond (Nat.beq t 114) (some (.e114 (List.replicate n z114))) (cond (Nat.beq t 3) (some (.eI (List.replicate n 0))) (none))))))))))))
  snoc := fun
    | .e60 l, c => match m60 c with
      | some x => some (.e60 (l ++ [x]))
      | none => none
    | .e80 l, c => match m80 c with
      | some x => some (.e80 (l ++ [x]))
      | none => none
    | .e84 l, c => match m84 c with
      | some x => some (.e84 (l ++ [x]))
      | none => none
    | .e93 l, c => match m93 c with
      | some x => some (.e93 (l ++ [x]))
      | none => none
    | .e103 l, c => match m103 c with
      | some x => some (.e103 (l ++ [x]))
      | none => none
    | .e105 l, c => match m105 c with
      | some x => some (.e105 (l ++ [x]))
      | none => none
    | .e106 l, c => match m106 c with
      | some x => some (.e106 (l ++ [x]))
      | none => none
    | .e108 l, c => match m108 c with
      | some x => some (.e108 (l ++ [x]))
      | none => none
    | .e110 l, c => match m110 c with
      | some x => some (.e110 (l ++ [x]))
      | none => none
    | .e112 l, c => match m112 c with
      | some x => some (.e112 (l ++ [x]))
      | none => none
    | .e114 l, c => match m114 c with
      | some x => some (.e114 (l ++ [x]))
      | none => none
    | .eI l, c => match mI c with
      | some x => some (.eI (l ++ [x]))
      | none => none
  app := fun
    | .e60 l, .e60 m => some (.e60 (l ++ m))
    | .e80 l, .e80 m => some (.e80 (l ++ m))
    | .e84 l, .e84 m => some (.e84 (l ++ m))
    | .e93 l, .e93 m => some (.e93 (l ++ m))
    | .e103 l, .e103 m => some (.e103 (l ++ m))
    | .e105 l, .e105 m => some (.e105 (l ++ m))
    | .e106 l, .e106 m => some (.e106 (l ++ m))
    | .e108 l, .e108 m => some (.e108 (l ++ m))
    | .e110 l, .e110 m => some (.e110 (l ++ m))
    | .e112 l, .e112 m => some (.e112 (l ++ m))
    | .e114 l, .e114 m => some (.e114 (l ++ m))
    | .eI l, .eI m => some (.eI (l ++ m))
    | _, _ => none
  set := fun
    | .e60 l, i, c => match m60 c with
      | some x => some (.e60 (l.set i x))
      | none => none
    | .e80 l, i, c => match m80 c with
      | some x => some (.e80 (l.set i x))
      | none => none
    | .e84 l, i, c => match m84 c with
      | some x => some (.e84 (l.set i x))
      | none => none
    | .e93 l, i, c => match m93 c with
      | some x => some (.e93 (l.set i x))
      | none => none
    | .e103 l, i, c => match m103 c with
      | some x => some (.e103 (l.set i x))
      | none => none
    | .e105 l, i, c => match m105 c with
      | some x => some (.e105 (l.set i x))
      | none => none
    | .e106 l, i, c => match m106 c with
      | some x => some (.e106 (l.set i x))
      | none => none
    | .e108 l, i, c => match m108 c with
      | some x => some (.e108 (l.set i x))
      | none => none
    | .e110 l, i, c => match m110 c with
      | some x => some (.e110 (l.set i x))
      | none => none
    | .e112 l, i, c => match m112 c with
      | some x => some (.e112 (l.set i x))
      | none => none
    | .e114 l, i, c => match m114 c with
      | some x => some (.e114 (l.set i x))
      | none => none
    | .eI l, i, c => match mI c with
      | some x => some (.eI (l.set i x))
      | none => none
  setK := fun r i c Z K => match r with
    | .e60 l => match m60 c with
      | some x => Option.bind (some (l.set i x)) fun y => K (.e60 y)
      | none => none
    | .e80 l => match m80 c with
      | some x => Option.bind (some (l.set i x)) fun y => K (.e80 y)
      | none => none
    | .e84 l => match m84 c with
      | some x => Option.bind (some (l.set i x)) fun y => K (.e84 y)
      | none => none
    | .e93 l => match m93 c with
      | some x => Option.bind (some (l.set i x)) fun y => K (.e93 y)
      | none => none
    | .e103 l => match m103 c with
      | some x => Option.bind (some (l.set i x)) fun y => K (.e103 y)
      | none => none
    | .e105 l => match m105 c with
      | some x => Option.bind (some (l.set i x)) fun y => K (.e105 y)
      | none => none
    | .e106 l => match m106 c with
      | some x => Option.bind (some (l.set i x)) fun y => K (.e106 y)
      | none => none
    | .e108 l => match m108 c with
      | some x => Option.bind (some (l.set i x)) fun y => K (.e108 y)
      | none => none
    | .e110 l => match m110 c with
      | some x => Option.bind (some (l.set i x)) fun y => K (.e110 y)
      | none => none
    | .e112 l => match m112 c with
      | some x => Option.bind (some (l.set i x)) fun y => K (.e112 y)
      | none => none
    | .e114 l => match m114 c with
      | some x => Option.bind (some (l.set i x)) fun y => K (.e114 y)
      | none => none
    | .eI l => match mI c with
      | some x => Option.bind (some (l.set i x)) fun y => K (.eI y)
      | none => none
theorem chain_nil {t u : Nat} {a r : Rw} {b : Option Rw} (h : cond (Nat.beq t u) (some a) b = some r) : (t = u ∧ a = r) ∨ b = some r := by
  cases hb : Nat.beq t u with
  | true => rw [hb] at h; simp only [cond_true, Option.some.injEq] at h; exact .inl ⟨Nat.eq_of_beq_eq_true hb, h⟩
  | false => rw [hb] at h; exact .inr h
instance : RowL Tryz.prog Rw where
  len_eq := fun r => by cases r <;> simp [RowT.len, RowT.cel]
  elt_eq := fun r i h => by cases r <;> simp only [RowT.len, RowT.cel, RowT.elt] at * <;> simp [List.getElem?_map, List.getElem?_eq_getElem h, List.getD_eq_getElem?_getD]
  nil_eq := fun t r h => by
    simp only [RowT.nil] at h
    rcases chain_nil h with ⟨rfl, rfl⟩ | h
    · exact ⟨rfl, rfl⟩
    rcases chain_nil h with ⟨rfl, rfl⟩ | h
    · exact ⟨rfl, rfl⟩
    rcases chain_nil h with ⟨rfl, rfl⟩ | h
    · exact ⟨rfl, rfl⟩
    rcases chain_nil h with ⟨rfl, rfl⟩ | h
    · exact ⟨rfl, rfl⟩
    rcases chain_nil h with ⟨rfl, rfl⟩ | h
    · exact ⟨rfl, rfl⟩
    rcases chain_nil h with ⟨rfl, rfl⟩ | h
    · exact ⟨rfl, rfl⟩
    rcases chain_nil h with ⟨rfl, rfl⟩ | h
    · exact ⟨rfl, rfl⟩
    rcases chain_nil h with ⟨rfl, rfl⟩ | h
    · exact ⟨rfl, rfl⟩
    rcases chain_nil h with ⟨rfl, rfl⟩ | h
    · exact ⟨rfl, rfl⟩
    rcases chain_nil h with ⟨rfl, rfl⟩ | h
    · exact ⟨rfl, rfl⟩
    rcases chain_nil h with ⟨rfl, rfl⟩ | h
    · exact ⟨rfl, rfl⟩
    rcases chain_nil h with ⟨rfl, rfl⟩ | h
    · exact ⟨rfl, rfl⟩
    simp at h
  zer_eq := fun t n r h => by
    simp only [RowT.zer] at h
    rcases chain_nil h with ⟨rfl, rfl⟩ | h
    · obtain ⟨i, z, h1, h2, h3, h4, _⟩ := i60_eq
      exact ⟨rfl, i, z, _, h1, h2, h4, by simp [RowT.cel]⟩
    rcases chain_nil h with ⟨rfl, rfl⟩ | h
    · obtain ⟨i, z, h1, h2, h3, h4, _⟩ := i80_eq
      exact ⟨rfl, i, z, _, h1, h2, h4, by simp [RowT.cel]⟩
    rcases chain_nil h with ⟨rfl, rfl⟩ | h
    · obtain ⟨i, z, h1, h2, h3, h4, _⟩ := i84_eq
      exact ⟨rfl, i, z, _, h1, h2, h4, by simp [RowT.cel]⟩
    rcases chain_nil h with ⟨rfl, rfl⟩ | h
    · obtain ⟨i, z, h1, h2, h3, h4, _⟩ := i93_eq
      exact ⟨rfl, i, z, _, h1, h2, h4, by simp [RowT.cel]⟩
    rcases chain_nil h with ⟨rfl, rfl⟩ | h
    · obtain ⟨i, z, h1, h2, h3, h4, _⟩ := i103_eq
      exact ⟨rfl, i, z, _, h1, h2, h4, by simp [RowT.cel]⟩
    rcases chain_nil h with ⟨rfl, rfl⟩ | h
    · obtain ⟨i, z, h1, h2, h3, h4, _⟩ := i105_eq
      exact ⟨rfl, i, z, _, h1, h2, h4, by simp [RowT.cel]⟩
    rcases chain_nil h with ⟨rfl, rfl⟩ | h
    · obtain ⟨i, z, h1, h2, h3, h4, _⟩ := i106_eq
      exact ⟨rfl, i, z, _, h1, h2, h4, by simp [RowT.cel]⟩
    rcases chain_nil h with ⟨rfl, rfl⟩ | h
    · obtain ⟨i, z, h1, h2, h3, h4, _⟩ := i108_eq
      exact ⟨rfl, i, z, _, h1, h2, h4, by simp [RowT.cel]⟩
    rcases chain_nil h with ⟨rfl, rfl⟩ | h
    · obtain ⟨i, z, h1, h2, h3, h4, _⟩ := i110_eq
      exact ⟨rfl, i, z, _, h1, h2, h4, by simp [RowT.cel]⟩
    rcases chain_nil h with ⟨rfl, rfl⟩ | h
    · obtain ⟨i, z, h1, h2, h3, h4, _⟩ := i112_eq
      exact ⟨rfl, i, z, _, h1, h2, h4, by simp [RowT.cel]⟩
    rcases chain_nil h with ⟨rfl, rfl⟩ | h
    · obtain ⟨i, z, h1, h2, h3, h4, _⟩ := i114_eq
      exact ⟨rfl, i, z, _, h1, h2, h4, by simp [RowT.cel]⟩
    rcases chain_nil h with ⟨rfl, rfl⟩ | h
    · obtain ⟨i, z, h1, h2, h3, h4, _⟩ := iI_eq
      exact ⟨rfl, i, z, _, h1, h2, h4, by simp [RowT.cel]⟩
    simp at h
  snoc_eq := fun r r' c h => by
    cases r <;> simp only [RowT.snoc] at h <;> split at h <;> first | (simp at h; done) | (rename_i x hx; simp only [Option.some.injEq] at h; subst h; refine ⟨?_, rfl⟩; simp only [RowT.cel, List.map_append, List.map_cons, List.map_nil]; first | rw [m60_eq hx] | rw [m80_eq hx] | rw [m84_eq hx] | rw [m93_eq hx] | rw [m103_eq hx] | rw [m105_eq hx] | rw [m106_eq hx] | rw [m108_eq hx] | rw [m110_eq hx] | rw [m112_eq hx] | rw [m114_eq hx] | rw [mI_eq hx])
  app_eq := fun r s r' h => by
    cases r <;> cases s <;> simp only [RowT.app] at h <;> first | (simp at h; done) | (simp only [Option.some.injEq] at h; subst h; exact ⟨by simp [RowT.cel], rfl, rfl⟩)
  set_eq := fun r r' i c h => by
    cases r <;> simp only [RowT.set] at h <;> split at h <;> first | (simp at h; done) | (rename_i x hx; simp only [Option.some.injEq] at h; subst h; refine ⟨?_, rfl⟩; simp only [RowT.cel, List.map_set]; first | rw [m60_eq hx] | rw [m80_eq hx] | rw [m84_eq hx] | rw [m93_eq hx] | rw [m103_eq hx] | rw [m105_eq hx] | rw [m106_eq hx] | rw [m108_eq hx] | rw [m110_eq hx] | rw [m112_eq hx] | rw [m114_eq hx] | rw [mI_eq hx])
  setK_eq := fun r i c Z K z h => by
    cases r <;> simp only [RowT.setK] at h <;> split at h <;> first | (simp at h; done) | (rename_i x hx; exact ⟨_, by simp only [RowT.set, hx], h⟩)
  info := fun r => by
    cases r
    · obtain ⟨i, z, h1, h2, h3, _, h5, h6⟩ := i60_eq
      refine ⟨i, z, h1, h2, h3, by omega, h6, fun c hc => ?_⟩
      obtain ⟨x, _, rfl⟩ := List.mem_map.1 hc
      rw [h5]; rfl
    · obtain ⟨i, z, h1, h2, h3, _, h5, h6⟩ := i80_eq
      refine ⟨i, z, h1, h2, h3, by omega, h6, fun c hc => ?_⟩
      obtain ⟨x, _, rfl⟩ := List.mem_map.1 hc
      rw [h5]; rfl
    · obtain ⟨i, z, h1, h2, h3, _, h5, h6⟩ := i84_eq
      refine ⟨i, z, h1, h2, h3, by omega, h6, fun c hc => ?_⟩
      obtain ⟨x, _, rfl⟩ := List.mem_map.1 hc
      rw [h5]; rfl
    · obtain ⟨i, z, h1, h2, h3, _, h5, h6⟩ := i93_eq
      refine ⟨i, z, h1, h2, h3, by omega, h6, fun c hc => ?_⟩
      obtain ⟨x, _, rfl⟩ := List.mem_map.1 hc
      rw [h5]; rfl
    · obtain ⟨i, z, h1, h2, h3, _, h5, h6⟩ := i103_eq
      refine ⟨i, z, h1, h2, h3, by omega, h6, fun c hc => ?_⟩
      obtain ⟨x, _, rfl⟩ := List.mem_map.1 hc
      rw [h5]; rfl
    · obtain ⟨i, z, h1, h2, h3, _, h5, h6⟩ := i105_eq
      refine ⟨i, z, h1, h2, h3, by omega, h6, fun c hc => ?_⟩
      obtain ⟨x, _, rfl⟩ := List.mem_map.1 hc
      rw [h5]; rfl
    · obtain ⟨i, z, h1, h2, h3, _, h5, h6⟩ := i106_eq
      refine ⟨i, z, h1, h2, h3, by omega, h6, fun c hc => ?_⟩
      obtain ⟨x, _, rfl⟩ := List.mem_map.1 hc
      rw [h5]; rfl
    · obtain ⟨i, z, h1, h2, h3, _, h5, h6⟩ := i108_eq
      refine ⟨i, z, h1, h2, h3, by omega, h6, fun c hc => ?_⟩
      obtain ⟨x, _, rfl⟩ := List.mem_map.1 hc
      rw [h5]; rfl
    · obtain ⟨i, z, h1, h2, h3, _, h5, h6⟩ := i110_eq
      refine ⟨i, z, h1, h2, h3, by omega, h6, fun c hc => ?_⟩
      obtain ⟨x, _, rfl⟩ := List.mem_map.1 hc
      rw [h5]; rfl
    · obtain ⟨i, z, h1, h2, h3, _, h5, h6⟩ := i112_eq
      refine ⟨i, z, h1, h2, h3, by omega, h6, fun c hc => ?_⟩
      obtain ⟨x, _, rfl⟩ := List.mem_map.1 hc
      rw [h5]; rfl
    · obtain ⟨i, z, h1, h2, h3, _, h5, h6⟩ := i114_eq
      refine ⟨i, z, h1, h2, h3, by omega, h6, fun c hc => ?_⟩
      obtain ⟨x, _, rfl⟩ := List.mem_map.1 hc
      rw [h5]; rfl
    · obtain ⟨i, z, h1, h2, h3, _, h5, h6⟩ := iI_eq
      refine ⟨i, z, h1, h2, h3, by omega, h6, fun c hc => ?_⟩
      obtain ⟨x, _, rfl⟩ := List.mem_map.1 hc
      rw [h5]; rfl
theorem reps_flat {α : Type} {f : α → List Sc} {size : Nat} {Q : α → List Value → Prop} (hQ : ∀ x c, Q x c ↔ c = (f x).map Sc.v) (hs : ∀ x, (f x).length = size) : ∀ {ps : List α} {cs : List Value}, Reps Q size ps cs ↔ cs = (ps.map f).flatten.map Sc.v := by
  have mk : ∀ ps : List α, Reps Q size ps ((ps.map f).flatten.map Sc.v) := by
    intro ps
    induction ps with
    | nil => exact Reps.none _ _
    | cons p ps ih =>
      have : ((p :: ps).map f).flatten.map Sc.v = (f p).map Sc.v ++ (ps.map f).flatten.map Sc.v := by simp
      rw [this]
      exact Kd.reps_append (ps := [p]) (qs := ps) (by simpa using Reps.snoc (Reps.none Q size) ((hQ p _).2 rfl) (by simp [hs])) ih
  intro ps cs
  refine ⟨fun h => ?_, fun h => h ▸ mk ps⟩
  have h2 := mk ps
  have hl : cs.length = ((ps.map f).flatten.map Sc.v).length := h.1.trans h2.1.symm
  apply List.ext_getElem?
  intro j
  rcases Nat.eq_zero_or_pos size with h0 | h0
  · have e1 : cs.length = 0 := by rw [h.1, h0]; simp
    rw [List.getElem?_eq_none (by omega), List.getElem?_eq_none (by omega)]
  · have hj : j = (j / size) * size + j % size := by rw [Nat.mul_comm]; exact (Nat.div_add_mod j size).symm
    have hm := Nat.mod_lt j h0
    cases hp : ps[j / size]? with
    | none =>
      have : ps.length ≤ j / size := List.getElem?_eq_none_iff.1 hp
      have h3 : ps.length * size ≤ j := Nat.le_trans (Nat.mul_le_mul_right _ this) (Nat.div_mul_le_self j size)
      rw [List.getElem?_eq_none (by rw [h.1]; exact h3), List.getElem?_eq_none (by rw [h2.1]; exact h3)]
    | some p =>
      have a := (hQ p _).1 (h.2 _ p hp)
      have b := (hQ p _).1 (h2.2 _ p hp)
      have key : ∀ l : List Value, l[j]? = ((l.drop (j / size * size)).take size)[j % size]? := fun l => by
        rw [List.getElem?_take, if_pos hm, List.getElem?_drop, ← hj]
      rw [key cs, key, a, b]
theorem flat_len {α : Type} {f : α → List Sc} {size : Nat} (hs : ∀ x, (f x).length = size) (ps : List α) : ((ps.map f).flatten.map Sc.v).length = ps.length * size := ((reps_flat (Q := fun x c => c = (f x).map Sc.v) (fun _ _ => Iff.rfl) hs).2 rfl).1
theorem ro_cells {α : Type} {f : α → List Sc} {size : Nat} (q : 0 < size) {Q : α → List Value → Prop} (hQ : ∀ x c, Q x c ↔ c = (f x).map Sc.v) (hs : ∀ x, (f x).length = size) {w : World} {A : Option Addr} {ps : List α} :
    ReadsRow Q size w A ps.length ps ↔ ps.length ≤ maxLen ∧ ∀ j u, ((ps.map f).flatten.map Sc.v)[j]? = some u → ∃ ad, A = some ad ∧ w.cell? (ad.add j) = some u := by
  have hr := (reps_flat hQ hs (ps := ps)).2 rfl
  have hm : maxLen = 9223372036854775807 := rfl
  constructor
  · rintro ⟨_, h1, h2⟩
    refine ⟨by rw [hm]; exact h1, fun j u hj => ?_⟩
    have hlt : j < ps.length * size := by
      have := getElem?_lt hj
      rwa [flat_len hs] at this
    have h0 := q
    have hq : j / size < ps.length := (Nat.div_lt_iff_lt_mul h0).2 hlt
    obtain ⟨ad, hA, hc⟩ := h2 (Nat.lt_of_le_of_lt (Nat.zero_le _) hq)
    obtain ⟨c, c1, c2, c3⟩ := hc (j / size) _ (List.getElem?_eq_getElem hq)
    have b := (hQ _ _).1 (hr.2 _ _ (List.getElem?_eq_getElem hq))
    rw [(hQ _ _).1 c2, ← b] at c3
    refine ⟨ad, hA, ?_⟩
    have hj' : j / size * size + j % size = j := by rw [Nat.mul_comm]; exact Nat.div_add_mod j size
    have := c3 (j % size) u (by rw [List.getElem?_take, if_pos (Nat.mod_lt j h0), List.getElem?_drop, hj']; exact hj)
    rwa [hj'] at this
  · rintro ⟨h1, h2⟩
    refine ⟨rfl, by rw [← hm]; exact h1, fun hpos => ?_⟩
    obtain ⟨ad, hA, _⟩ := h2 0 _ (List.getElem?_eq_getElem (by rw [flat_len hs]; exact Nat.mul_pos hpos q))
    refine ⟨ad, hA, fun j p hp => ⟨(f p).map Sc.v, by simp [hs], (hQ p _).2 rfl, fun i u hi => ?_⟩⟩
    have b := (hQ _ _).1 (hr.2 _ _ hp)
    have hi2 : i < size := by have := getElem?_lt hi; simpa [hs] using this
    rw [← b, List.getElem?_take, if_pos hi2, List.getElem?_drop] at hi
    obtain ⟨ad', hA', h3⟩ := h2 _ u hi
    rw [hA] at hA'; injection hA' with hA'; subst hA'
    exact h3
theorem nw60 {w : World} {base : Nat} {ok : Nat → Prop} {v : Value} {l : List S60} (h : Kd.R k60 60 w base ok v l) : w.ownsRow base (RowT.ty (Rw.e60 l)) (Tryz.prog.cellsOf (RowT.ty (Rw.e60 l))) v (RowT.len (Rw.e60 l)) (flat (Rw.e60 l)) := by
  obtain ⟨inner, ho, hr⟩ := h.2
  obtain rfl := (reps_flat (f := n60) (size := k60.sz) (Q := k60.M w base _) (fun x c => n60_eqM) (fun _ => rfl)).1 hr
  rw [show Tryz.prog.cellsOf (RowT.ty (Rw.e60 l)) = k60.sz from (by kernel_rfl : Tryz.prog.cellsOf 60 = 8)]
  exact ho
theorem ro60 {g : Nat → Value} {w : World} {b i : Nat} {l : List S60} : BlkOK Tryz.prog g w b i (.rows 0 (Rw.e60 l)) ↔ ∃ A c, g i = .slice A l.length c ∧ l.length ≤ c ∧ Kd.C k60 w A l.length l := by
  have h := fun A => ro_cells (size := k60.sz) (by decide) (fun x c => n60_eq (w := w) (x := x) (cs := c)) (fun _ => rfl) (w := w) (A := A) (ps := l)
  constructor
  · rintro ⟨A, c, h1, h2, h3, h4⟩; exact ⟨A, c, h1, h2, (h A).2 ⟨h3, h4⟩⟩
  · rintro ⟨A, c, h1, h2, h3⟩; exact ⟨A, c, h1, h2, ((h A).1 h3).1, ((h A).1 h3).2⟩
theorem nw80 {w : World} {base : Nat} {ok : Nat → Prop} {v : Value} {l : List S80} (h : Kd.R k80 80 w base ok v l) : w.ownsRow base (RowT.ty (Rw.e80 l)) (Tryz.prog.cellsOf (RowT.ty (Rw.e80 l))) v (RowT.len (Rw.e80 l)) (flat (Rw.e80 l)) := by
  obtain ⟨inner, ho, hr⟩ := h.2
  obtain rfl := (reps_flat (f := n80) (size := k80.sz) (Q := k80.M w base _) (fun x c => n80_eqM) (fun _ => rfl)).1 hr
  rw [show Tryz.prog.cellsOf (RowT.ty (Rw.e80 l)) = k80.sz from (by kernel_rfl : Tryz.prog.cellsOf 80 = 2)]
  exact ho
theorem ro80 {g : Nat → Value} {w : World} {b i : Nat} {l : List S80} : BlkOK Tryz.prog g w b i (.rows 0 (Rw.e80 l)) ↔ ∃ A c, g i = .slice A l.length c ∧ l.length ≤ c ∧ Kd.C k80 w A l.length l := by
  have h := fun A => ro_cells (size := k80.sz) (by decide) (fun x c => n80_eq (w := w) (x := x) (cs := c)) (fun _ => rfl) (w := w) (A := A) (ps := l)
  constructor
  · rintro ⟨A, c, h1, h2, h3, h4⟩; exact ⟨A, c, h1, h2, (h A).2 ⟨h3, h4⟩⟩
  · rintro ⟨A, c, h1, h2, h3⟩; exact ⟨A, c, h1, h2, ((h A).1 h3).1, ((h A).1 h3).2⟩
theorem nw84 {w : World} {base : Nat} {ok : Nat → Prop} {v : Value} {l : List S84} (h : Kd.R k84 84 w base ok v l) : w.ownsRow base (RowT.ty (Rw.e84 l)) (Tryz.prog.cellsOf (RowT.ty (Rw.e84 l))) v (RowT.len (Rw.e84 l)) (flat (Rw.e84 l)) := by
  obtain ⟨inner, ho, hr⟩ := h.2
  obtain rfl := (reps_flat (f := n84) (size := k84.sz) (Q := k84.M w base _) (fun x c => n84_eqM) (fun _ => rfl)).1 hr
  rw [show Tryz.prog.cellsOf (RowT.ty (Rw.e84 l)) = k84.sz from (by kernel_rfl : Tryz.prog.cellsOf 84 = 2)]
  exact ho
theorem ro84 {g : Nat → Value} {w : World} {b i : Nat} {l : List S84} : BlkOK Tryz.prog g w b i (.rows 0 (Rw.e84 l)) ↔ ∃ A c, g i = .slice A l.length c ∧ l.length ≤ c ∧ Kd.C k84 w A l.length l := by
  have h := fun A => ro_cells (size := k84.sz) (by decide) (fun x c => n84_eq (w := w) (x := x) (cs := c)) (fun _ => rfl) (w := w) (A := A) (ps := l)
  constructor
  · rintro ⟨A, c, h1, h2, h3, h4⟩; exact ⟨A, c, h1, h2, (h A).2 ⟨h3, h4⟩⟩
  · rintro ⟨A, c, h1, h2, h3⟩; exact ⟨A, c, h1, h2, ((h A).1 h3).1, ((h A).1 h3).2⟩
theorem ro93 {g : Nat → Value} {w : World} {b i : Nat} {l : List S93} : BlkOK Tryz.prog g w b i (.rows 0 (Rw.e93 l)) ↔ ∃ A c, g i = .slice A l.length c ∧ l.length ≤ c ∧ Kd.C k93 w A l.length l := by
  have h := fun A => ro_cells (size := k93.sz) (by decide) (fun x c => n93_eq (w := w) (x := x) (cs := c)) (fun _ => rfl) (w := w) (A := A) (ps := l)
  constructor
  · rintro ⟨A, c, h1, h2, h3, h4⟩; exact ⟨A, c, h1, h2, (h A).2 ⟨h3, h4⟩⟩
  · rintro ⟨A, c, h1, h2, h3⟩; exact ⟨A, c, h1, h2, ((h A).1 h3).1, ((h A).1 h3).2⟩
theorem ro103 {g : Nat → Value} {w : World} {b i : Nat} {l : List S103} : BlkOK Tryz.prog g w b i (.rows 0 (Rw.e103 l)) ↔ ∃ A c, g i = .slice A l.length c ∧ l.length ≤ c ∧ Kd.C k103 w A l.length l := by
  have h := fun A => ro_cells (size := k103.sz) (by decide) (fun x c => n103_eq (w := w) (x := x) (cs := c)) (fun _ => rfl) (w := w) (A := A) (ps := l)
  constructor
  · rintro ⟨A, c, h1, h2, h3, h4⟩; exact ⟨A, c, h1, h2, (h A).2 ⟨h3, h4⟩⟩
  · rintro ⟨A, c, h1, h2, h3⟩; exact ⟨A, c, h1, h2, ((h A).1 h3).1, ((h A).1 h3).2⟩
theorem ro105 {g : Nat → Value} {w : World} {b i : Nat} {l : List S105} : BlkOK Tryz.prog g w b i (.rows 0 (Rw.e105 l)) ↔ ∃ A c, g i = .slice A l.length c ∧ l.length ≤ c ∧ Kd.C k105 w A l.length l := by
  have h := fun A => ro_cells (size := k105.sz) (by decide) (fun x c => n105_eq (w := w) (x := x) (cs := c)) (fun _ => rfl) (w := w) (A := A) (ps := l)
  constructor
  · rintro ⟨A, c, h1, h2, h3, h4⟩; exact ⟨A, c, h1, h2, (h A).2 ⟨h3, h4⟩⟩
  · rintro ⟨A, c, h1, h2, h3⟩; exact ⟨A, c, h1, h2, ((h A).1 h3).1, ((h A).1 h3).2⟩
theorem nw106 {w : World} {base : Nat} {ok : Nat → Prop} {v : Value} {l : List S106} (h : Kd.R k106 106 w base ok v l) : w.ownsRow base (RowT.ty (Rw.e106 l)) (Tryz.prog.cellsOf (RowT.ty (Rw.e106 l))) v (RowT.len (Rw.e106 l)) (flat (Rw.e106 l)) := by
  obtain ⟨inner, ho, hr⟩ := h.2
  obtain rfl := (reps_flat (f := n106) (size := k106.sz) (Q := k106.M w base _) (fun x c => n106_eqM) (fun _ => rfl)).1 hr
  rw [show Tryz.prog.cellsOf (RowT.ty (Rw.e106 l)) = k106.sz from (by kernel_rfl : Tryz.prog.cellsOf 106 = 3)]
  exact ho
theorem ro106 {g : Nat → Value} {w : World} {b i : Nat} {l : List S106} : BlkOK Tryz.prog g w b i (.rows 0 (Rw.e106 l)) ↔ ∃ A c, g i = .slice A l.length c ∧ l.length ≤ c ∧ Kd.C k106 w A l.length l := by
  have h := fun A => ro_cells (size := k106.sz) (by decide) (fun x c => n106_eq (w := w) (x := x) (cs := c)) (fun _ => rfl) (w := w) (A := A) (ps := l)
  constructor
  · rintro ⟨A, c, h1, h2, h3, h4⟩; exact ⟨A, c, h1, h2, (h A).2 ⟨h3, h4⟩⟩
  · rintro ⟨A, c, h1, h2, h3⟩; exact ⟨A, c, h1, h2, ((h A).1 h3).1, ((h A).1 h3).2⟩
theorem ro108 {g : Nat → Value} {w : World} {b i : Nat} {l : List S108} : BlkOK Tryz.prog g w b i (.rows 0 (Rw.e108 l)) ↔ ∃ A c, g i = .slice A l.length c ∧ l.length ≤ c ∧ Kd.C k108 w A l.length l := by
  have h := fun A => ro_cells (size := k108.sz) (by decide) (fun x c => n108_eq (w := w) (x := x) (cs := c)) (fun _ => rfl) (w := w) (A := A) (ps := l)
  constructor
  · rintro ⟨A, c, h1, h2, h3, h4⟩; exact ⟨A, c, h1, h2, (h A).2 ⟨h3, h4⟩⟩
  · rintro ⟨A, c, h1, h2, h3⟩; exact ⟨A, c, h1, h2, ((h A).1 h3).1, ((h A).1 h3).2⟩
theorem nw110 {w : World} {base : Nat} {ok : Nat → Prop} {v : Value} {l : List S110} (h : Kd.R k110 110 w base ok v l) : w.ownsRow base (RowT.ty (Rw.e110 l)) (Tryz.prog.cellsOf (RowT.ty (Rw.e110 l))) v (RowT.len (Rw.e110 l)) (flat (Rw.e110 l)) := by
  obtain ⟨inner, ho, hr⟩ := h.2
  obtain rfl := (reps_flat (f := n110) (size := k110.sz) (Q := k110.M w base _) (fun x c => n110_eqM) (fun _ => rfl)).1 hr
  rw [show Tryz.prog.cellsOf (RowT.ty (Rw.e110 l)) = k110.sz from (by kernel_rfl : Tryz.prog.cellsOf 110 = 5)]
  exact ho
theorem ro110 {g : Nat → Value} {w : World} {b i : Nat} {l : List S110} : BlkOK Tryz.prog g w b i (.rows 0 (Rw.e110 l)) ↔ ∃ A c, g i = .slice A l.length c ∧ l.length ≤ c ∧ Kd.C k110 w A l.length l := by
  have h := fun A => ro_cells (size := k110.sz) (by decide) (fun x c => n110_eq (w := w) (x := x) (cs := c)) (fun _ => rfl) (w := w) (A := A) (ps := l)
  constructor
  · rintro ⟨A, c, h1, h2, h3, h4⟩; exact ⟨A, c, h1, h2, (h A).2 ⟨h3, h4⟩⟩
  · rintro ⟨A, c, h1, h2, h3⟩; exact ⟨A, c, h1, h2, ((h A).1 h3).1, ((h A).1 h3).2⟩
theorem ro112 {g : Nat → Value} {w : World} {b i : Nat} {l : List S112} : BlkOK Tryz.prog g w b i (.rows 0 (Rw.e112 l)) ↔ ∃ A c, g i = .slice A l.length c ∧ l.length ≤ c ∧ Kd.C k112 w A l.length l := by
  have h := fun A => ro_cells (size := k112.sz) (by decide) (fun x c => n112_eq (w := w) (x := x) (cs := c)) (fun _ => rfl) (w := w) (A := A) (ps := l)
  constructor
  · rintro ⟨A, c, h1, h2, h3, h4⟩; exact ⟨A, c, h1, h2, (h A).2 ⟨h3, h4⟩⟩
  · rintro ⟨A, c, h1, h2, h3⟩; exact ⟨A, c, h1, h2, ((h A).1 h3).1, ((h A).1 h3).2⟩
theorem ro114 {g : Nat → Value} {w : World} {b i : Nat} {l : List S114} : BlkOK Tryz.prog g w b i (.rows 0 (Rw.e114 l)) ↔ ∃ A c, g i = .slice A l.length c ∧ l.length ≤ c ∧ Kd.C k114 w A l.length l := by
  have h := fun A => ro_cells (size := k114.sz) (by decide) (fun x c => n114_eq (w := w) (x := x) (cs := c)) (fun _ => rfl) (w := w) (A := A) (ps := l)
  constructor
  · rintro ⟨A, c, h1, h2, h3, h4⟩; exact ⟨A, c, h1, h2, (h A).2 ⟨h3, h4⟩⟩
  · rintro ⟨A, c, h1, h2, h3⟩; exact ⟨A, c, h1, h2, ((h A).1 h3).1, ((h A).1 h3).2⟩
theorem mixed : Tryz.prog.follows .mixedOrders = true := by kernel_rfl
end Go.Proofs.YtmfgajbkcnlkcaaGreat.AI
namespace Go.Proofs.YtmfgajbkcnlkcaaGreat.AI
set_option linter.all false
open Go Go.RowKit
theorem nil_ {α : Type _} {p : α → Prop} : ∀ c ∈ ([] : List α), p c := fun _ h => by cases h
theorem cons_ {α : Type _} {p : α → Prop} {a : α} {l : List α} (h : p a) (t : ∀ c ∈ l, p c) : ∀ c ∈ a :: l, p c := List.forall_mem_cons.2 ⟨h, t⟩
theorem weak_L {X Z : Type} {p q : Prop} {i : Decidable p} {j : Decidable q} {a b : Option Z} {c : Option X} {f : X → Option Z} (e : q → p) (h : q → Lo a (c.bind f)) : Lo (@ite _ p i a b) (Option.bind (@ite _ q j c none) f) := by
  by_cases t : q
  · rw [if_pos (e t), if_pos t]; exact h t
  · rw [if_neg t]; exact none_L
theorem lo_ {X Z : Type} {a : Option Z} {b : Option X} {f : X → Option Z} (h : Lo a (b.bind f) := by
    repeat' first
    | with_reducible exact none_L
    | with_reducible refine letB_L (fun _ _ => ?_)
    | with_reducible refine bind_L (fun _ => ?_)
    | with_reducible refine ite_L (fun _ => ?_) (fun _ => ?_)
    | with_reducible refine drop_L (by first | assumption | omega | (simp only [*, List.length_set]; done)) ?_
    | with_reducible refine let_L ?_
    | with_reducible refine some_L ?_
    | with_reducible refine letT_L ?_
    | with_reducible refine ite_I (by omega) (fun _ => ?_) (fun _ => ?_)
    | with_reducible refine weak_L (fun _ => by omega) (fun _ => ?_)
    | rfl
    | simp only [Bool.decide_eq_true]
    | exact Lo.refl _
    | (refine Lo.eq ?_; simp only [Bool.decide_eq_true]; done)
    | refine ite_L (fun _ => ?_) (fun _ => ?_)) : Lo a (b.bind f) := h
section
variable {R : Type} [RowT R] {P : Program}
abbrev sg (P : Program) (O : List (Cal R)) (cs : List (Cut R)) (fn : Func) (k : Nat) (p : List Bool) (st : St R) : Option (Out R) := seg P O cs k (body fn) (kEnd P fn.results.toList) p st
theorem fn_d [RowL P R] {O : List (Cal R)} {cs : List (Cut R)} {f : FuncId} {fn : Func} {lent : Bool} {sem : Mean R} (hO : ∀ c ∈ O, Sound P c) (hm : P.follows .mixedOrders = true) (hf : P.funcs[f]? = some fn)
    (hz : ∀ c ∈ cs, ∀ st, c.f 0 st = none) (hs : ∀ c ∈ cs, ∀ k st out, c.f (k + 1) st = some out → sg P O cs fn k c.p st = some out)
    (h : ∀ (k : Nat) (args : List V) (hp : List (Blk R)) (Z : Type) (K : Out R → Option Z) (z : Z), sem k args hp Z K = some z → ∃ out, K out = some z ∧ enter P O cs k fn (body fn) args hp = some out)
    (hb : fn.body = some (body fn) := by kernel_rfl) (hn : (fn.name == "runtime.NumGoroutine") = false := by kernel_rfl) (hi : fn.body.isNone = false := by kernel_rfl) : Sound P ⟨f, lent, sem⟩ :=
  sound_of ⟨fn, hf, hn, hi⟩ fun k args hp Z K z e => by
    obtain ⟨out, h1, h2⟩ := h k args hp Z K z e
    exact ⟨out, h1, fn_ok hO hm hf hb hz hs h2⟩
theorem ent {X Z : Type} {m : Option X} {o : X → Out R} {K : Out R → Option Z} {z : Z} {e : Option (Out R)} (h : (m.bind fun r => K (o r)) = some z) (L : Lo e (m.bind fun r => some (o r))) : ∃ out, K out = some z ∧ e = some out := by
  obtain ⟨r, hr, hK⟩ := Option.bind_eq_some_iff.1 h
  exact ⟨_, hK, L _ (by rw [hr]; rfl)⟩
theorem good_of {c : Cal R} (hd : Sound P c) {k : Nat} {args : List V} {hp : List (Blk R)} {out : Out R} (h : c.sem k args hp _ some = some out) : Good P c.f args hp out := by
  obtain ⟨o, e, hg⟩ := hd.ok k args hp _ some out h
  cases e; exact hg
theorem good_new2 [RowL P R] {f : FuncId} {args : List V} {hp : List (Blk R)} {r : R} {ys : List W} (hro : ∀ b ∈ hp, isRo b = true) (hys : ∀ y ∈ ys, idsW y = [])
    (h : ∀ w g, ArgsOK P w g args hp → Calls P f (args.map (concV g)).toArray w fun e w' => ∃ v, e = .returned (resC (upd g hp.length v) (.c (.rw hp.length) :: ys)) ∧ w'.ownsRow w.heap.size (RowT.ty r) (P.cellsOf (RowT.ty r)) v (RowT.len r) (flat r) ∧ Below w.heap.size w w') :
    Good P f args hp ⟨.c (.rw hp.length) :: ys, hp ++ [.rows 2 r]⟩ := by
  intro w g hA
  refine (h w g hA).mono ?_
  rintro e w' ⟨v, rfl, hown, hb⟩
  obtain ⟨hone, hblk⟩ := own_block hown
  have hs : upd g hp.length v hp.length = v := upd_same ..
  have ho : ∀ i, i < hp.length → upd g hp.length v i = g i := fun i hi => upd_other g v (by omega)
  have cas : ∀ (i : Nat) b, (hp ++ [.rows 2 r])[i]? = some b → (hp[i]? = some b ∧ i < hp.length ∧ ∃ q, b = .rows 0 q) ∨ (i = hp.length ∧ b = .rows 2 r) := by
    intro i b hi
    rcases Nat.lt_or_ge i hp.length with q | q
    · rw [List.getElem?_append_left q] at hi; exact .inl ⟨hi, q, ro_rows (hro b (List.mem_of_getElem? hi))⟩
    · rw [List.getElem?_append_right q] at hi
      have := getElem?_lt hi
      have e0 : i - hp.length = 0 := by simpa using this
      rw [e0] at hi; simp only [List.getElem?_cons_zero, Option.some.injEq] at hi
      exact .inr ⟨by omega, hi.symm⟩
  have old : ∀ (i : Nat) b, hp[i]? = some b → BlkOK P (upd g hp.length v) w' w.heap.size i b := fun i b hi => by
    refine ((hA.blk i b hi).move fun n hn => hb.block n ((hA.blk i b hi).lt hn)).name (ho i (getElem?_lt hi)) fun j hj => ho j (hA.idB i b hi j hj)
  refine ⟨_, upd g hp.length v, rfl, rfl, ho, fun y hy id hid => ?_, fun i b hi j hj => ?_, fun i b hi => ?_, fun i b i' b' n hi hi' hne hm hn => ?_, fun i b hi => ⟨b, by rw [List.getElem?_append_left (getElem?_lt hi)]; exact hi, SameKind.refl (hA.kind i b hi).dead⟩, fun i b hi hib => ?_, fun i hi => ?_, ⟨hb.os, hb.tape, hb.output, hb.size, fun k hk _ => hb.block k hk⟩⟩
  · rcases List.mem_cons.1 hy with rfl | hy
    · simp only [idsW, idsC, List.mem_singleton] at hid; subst hid
      simp
    · rw [hys y hy] at hid; simp at hid
  · rcases cas i b hi with ⟨_, _, q, rfl⟩ | ⟨_, rfl⟩ <;> simp [idsB] at hj
  · rcases cas i b hi with ⟨h1, _, _⟩ | ⟨rfl, rfl⟩
    · exact old i b h1
    · show w'.ownsRow (if 1 = 1 then w.heap.size else 0) _ _ (upd g hp.length v hp.length) _ _
      rw [hs, if_pos rfl]; exact hown
  · rcases cas i b hi with ⟨_, _, q, rfl⟩ | ⟨rfl, rfl⟩
    · exact hm.elim
    · rcases cas i' b' hi' with ⟨h1, h2, q, rfl⟩ | ⟨rfl, _⟩
      · intro hn'
        have h3 := hblk n (by rw [← hs]; exact hn)
        rw [HasB.name (ho i' h2)] at hn'
        have := (hA.blk i' _ h1).lt hn'
        omega
      · exact absurd rfl hne
  · rcases cas i b hib with ⟨_, h2, _⟩ | ⟨rfl, rfl⟩
    · omega
    · exact ⟨⟨r, rfl⟩, fun n hn => hblk n (by rw [← hs]; exact hn)⟩
  · simp only [List.length_append, List.length_singleton] at hi
    rcases Nat.lt_or_ge i hp.length with q | q
    · rw [ho i q]; exact hA.one i q
    · rw [show i = hp.length by omega, hs]; exact hone
def Tk {Z : Type} (K : Out R → Option Z) (x : Option (Out R)) (y : Option Z) : Prop := ∀ z, y = some z → ∃ out, K out = some z ∧ x = some out
theorem Tk.leaf {Z : Type} {K : Out R → Option Z} {out : Out R} : Tk K (some out) (K out) := fun _ h => ⟨out, h, rfl⟩
theorem Tk.no {Z : Type} {K : Out R → Option Z} {x : Option (Out R)} : Tk K x none := fun _ h => by cases h
theorem Tk.ite {Z : Type} {K : Out R → Option Z} {p : Prop} {i : Decidable p} {a b : Option (Out R)} {c d : Option Z} (h : Tk K a c) (h' : Tk K b d) : Tk K (@ite _ p i a b) (@ite _ p i c d) := by
  by_cases t : p
  · rw [if_pos t, if_pos t]; exact h
  · rw [if_neg t, if_neg t]; exact h'
theorem Tk.bind {X Z : Type} {K : Out R → Option Z} {m : Option X} {f : X → Option (Out R)} {g : X → Option Z} (h : ∀ r, Tk K (f r) (g r)) : Tk K (m.bind f) (m.bind g) := by
  cases m with
  | none => exact Tk.no
  | some r => exact h r
theorem tkw_ {Z : Type} {K : Out R → Option Z} {x : Option (Out R)} {y : Option Z} (t : Tk K x y := by
    repeat' first
    | with_reducible exact Tk.leaf
    | with_reducible exact Tk.no
    | with_reducible refine Tk.ite ?_ ?_
    | with_reducible refine Tk.bind (fun _ => ?_)) : Tk K x y := t
theorem tk_ {Z : Type} {K : Out R → Option Z} {x e : Option (Out R)} {y : Option Z} {z : Z} (h : y = some z) (he : e = x) (t : Tk K x y) : ∃ out, K out = some z ∧ e = some out := by
  rw [he]; exact t z h
end
end Go.Proofs.YtmfgajbkcnlkcaaGreat.AI
namespace Go.Proofs.YtmfgajbkcnlkcaaGreat.AI
set_option linter.all false
open Go Go.RowKit
abbrev HH {R : Type} [RowT R] (P : Program) (O : List (Cal R)) (cs : List (Cut R)) (fn : Func) (p : List Bool) (C : Nat → St R → Option (Out R)) : Prop := ∀ k st out, C (k + 1) st = some out → sg P O cs fn k p st = some out
theorem dropN_L {Z : Type} {p : Prop} {i : Decidable p} {a b c : Option Z} (q : ¬p) (h : Lo b c) : Lo (@ite _ p i a b) c := by rw [if_neg q]; exact h
theorem lon_ {X Z : Type} {a : Option Z} {b : Option X} {f : X → Option Z} (h : Lo a (b.bind f) := by
    repeat' first
    | with_reducible exact none_L
    | with_reducible refine letB_L (fun _ _ => ?_)
    | with_reducible refine bind_L (fun _ => ?_)
    | with_reducible refine ite_L (fun _ => ?_) (fun _ => ?_)
    | with_reducible refine drop_L (by first | assumption | omega | (simp only [*, List.length_set]; done)) ?_
    | with_reducible refine dropN_L (by first | assumption | omega) ?_
    | with_reducible refine let_L ?_
    | with_reducible refine some_L ?_
    | with_reducible refine letT_L ?_
    | with_reducible refine ite_I (by omega) (fun _ => ?_) (fun _ => ?_)
    | with_reducible refine weak_L (fun _ => by omega) (fun _ => ?_)
    | rfl
    | simp only [Bool.decide_eq_true]
    | exact Lo.refl _
    | (refine Lo.eq ?_; simp only [Bool.decide_eq_true]; done)
    | (refine Lo.eq ?_; simp only [Int.zero_sub, List.cons_append, List.nil_append]; done)
    | refine ite_L (fun _ => ?_) (fun _ => ?_)) : Lo a (b.bind f) := h
end Go.Proofs.YtmfgajbkcnlkcaaGreat.AI
namespace Go.Proofs.YtmfgajbkcnlkcaaGreat.AI
open Go Go.RowKit Go.Proofs.YtmfgajbkcnlkcaaGreatW.PrintWords Go.Proofs.YtmfgajbkcnlkcaaGreat.P
set_option linter.unusedVariables false
set_option linter.all false
set_option maxRecDepth 100000
set_option maxHeartbeats 4000000
noncomputable section
def o23 (l0 : List S103) (r : Int) : Out Rw := ⟨[.c (.sc (.i .i64 r))], [.rows 0 (.e103 l0)]⟩
def Q23 : Mean Rw := fun k a h Z K => match a, h with
  | [.w (.c (.rw 0)), .w (.c (.sc (.i .i64 a1)))], [.rows 0 (.e103 l0)] => (laws_szAccountS.f l0 a1).bind fun r => K (o23 l0 r)
  | _, _ => none
def q23 : Cal Rw := ⟨23, false, Q23⟩
def O23 : List (Cal Rw) := []
def K23 : List (Cut Rw) := []
theorem d23 : Sound Tryz.prog q23 := fn_d (O := O23) (cs := K23) nil_ mixed Tryz.func23 nil_ nil_ fun k a h Z K z e => by
  unfold Q23 at e; split at e
  · rename_i a1 l0
    exact ent e (Lo.of (b := (if RowKit.wrap64 (a1 - (l0.length : Int)) < 0 then (some (o23 l0 (-1))) else (some (o23 l0 (RowKit.wrap64 (a1 - (l0.length : Int))))))) (by kernel_rfl) (by unfold laws_szAccountS.f; exact lo_))
  · cases e
def o24 (l0 : List S105) (r : Int) : Out Rw := ⟨[.c (.sc (.i .i64 r))], [.rows 0 (.e105 l0)]⟩
def Q24 : Mean Rw := fun k a h Z K => match a, h with
  | [.w (.c (.rw 0)), .w (.c (.sc (.i .i64 a1)))], [.rows 0 (.e105 l0)] => (laws_szInstrS.f l0 a1).bind fun r => K (o24 l0 r)
  | _, _ => none
def q24 : Cal Rw := ⟨24, false, Q24⟩
def O24 : List (Cal Rw) := []
def K24 : List (Cut Rw) := []
theorem d24 : Sound Tryz.prog q24 := fn_d (O := O24) (cs := K24) nil_ mixed Tryz.func24 nil_ nil_ fun k a h Z K z e => by
  unfold Q24 at e; split at e
  · rename_i a1 l0
    exact ent e (Lo.of (b := (if RowKit.wrap64 (a1 - (l0.length : Int)) < 0 then (some (o24 l0 (-1))) else (some (o24 l0 (RowKit.wrap64 (a1 - (l0.length : Int))))))) (by kernel_rfl) (by unfold laws_szInstrS.f; exact lo_))
  · cases e
def o25 (l0 : List S108) (r : Int) : Out Rw := ⟨[.c (.sc (.i .i64 r))], [.rows 0 (.e108 l0)]⟩
def Q25 : Mean Rw := fun k a h Z K => match a, h with
  | [.w (.c (.rw 0)), .w (.c (.sc (.i .i64 a1)))], [.rows 0 (.e108 l0)] => (laws_szBalS.f l0 a1).bind fun r => K (o25 l0 r)
  | _, _ => none
def q25 : Cal Rw := ⟨25, false, Q25⟩
def O25 : List (Cal Rw) := []
def K25 : List (Cut Rw) := []
theorem d25 : Sound Tryz.prog q25 := fn_d (O := O25) (cs := K25) nil_ mixed Tryz.func25 nil_ nil_ fun k a h Z K z e => by
  unfold Q25 at e; split at e
  · rename_i a1 l0
    exact ent e (Lo.of (b := (if RowKit.wrap64 (a1 - (l0.length : Int)) < 0 then (some (o25 l0 (-1))) else (some (o25 l0 (RowKit.wrap64 (a1 - (l0.length : Int))))))) (by kernel_rfl) (by unfold laws_szBalS.f; exact lo_))
  · cases e
def o26 (l0 : List S112) (r : Int) : Out Rw := ⟨[.c (.sc (.i .i64 r))], [.rows 0 (.e112 l0)]⟩
def Q26 : Mean Rw := fun k a h Z K => match a, h with
  | [.w (.c (.rw 0)), .w (.c (.sc (.i .i64 a1)))], [.rows 0 (.e112 l0)] => (laws_szLotS.f l0 a1).bind fun r => K (o26 l0 r)
  | _, _ => none
def q26 : Cal Rw := ⟨26, false, Q26⟩
def O26 : List (Cal Rw) := []
def K26 : List (Cut Rw) := []
theorem d26 : Sound Tryz.prog q26 := fn_d (O := O26) (cs := K26) nil_ mixed Tryz.func26 nil_ nil_ fun k a h Z K z e => by
  unfold Q26 at e; split at e
  · rename_i a1 l0
    exact ent e (Lo.of (b := (if RowKit.wrap64 (a1 - (l0.length : Int)) < 0 then (some (o26 l0 (-1))) else (some (o26 l0 (RowKit.wrap64 (a1 - (l0.length : Int))))))) (by kernel_rfl) (by unfold laws_szLotS.f; exact lo_))
  · cases e
def o27 (l0 : List S114) (r : Int) : Out Rw := ⟨[.c (.sc (.i .i64 r))], [.rows 0 (.e114 l0)]⟩
def Q27 : Mean Rw := fun k a h Z K => match a, h with
  | [.w (.c (.rw 0)), .w (.c (.sc (.i .i64 a1)))], [.rows 0 (.e114 l0)] => (laws_szTradeS.f l0 a1).bind fun r => K (o27 l0 r)
  | _, _ => none
def q27 : Cal Rw := ⟨27, false, Q27⟩
def O27 : List (Cal Rw) := []
def K27 : List (Cut Rw) := []
theorem d27 : Sound Tryz.prog q27 := fn_d (O := O27) (cs := K27) nil_ mixed Tryz.func27 nil_ nil_ fun k a h Z K z e => by
  unfold Q27 at e; split at e
  · rename_i a1 l0
    exact ent e (Lo.of (b := (if RowKit.wrap64 (a1 - (l0.length : Int)) < 0 then (some (o27 l0 (-1))) else (some (o27 l0 (RowKit.wrap64 (a1 - (l0.length : Int))))))) (by kernel_rfl) (by unfold laws_szTradeS.f; exact lo_))
  · cases e
def o8 (l0_0 : List S103) (l0_1 : List S105) (l0_2 : List S108) (l0_3 : List S112) (l0_4 : List S114) (r : Int) : Out Rw := ⟨[.c (.sc (.i .i64 r))], [.rows 0 (.e103 l0_0), .rows 0 (.e105 l0_1), .rows 0 (.e108 l0_2), .rows 0 (.e112 l0_3), .rows 0 (.e114 l0_4)]⟩
def Q8 : Mean Rw := fun k a h Z K => match a, h with
  | [.w (.ag [.rw 0, .rw 1, .rw 2, .rw 3, .rw 4, .sc (.i .i64 a0_5)]), .w (.c (.sc (.i .i64 a1)))], [.rows 0 (.e103 l0_0), .rows 0 (.e105 l0_1), .rows 0 (.e108 l0_2), .rows 0 (.e112 l0_3), .rows 0 (.e114 l0_4)] => (laws_szBooks.f l0_0 l0_1 l0_2 l0_3 l0_4 a0_5 a1).bind fun r => K (o8 l0_0 l0_1 l0_2 l0_3 l0_4 r)
  | _, _ => none
def q8 : Cal Rw := ⟨8, false, Q8⟩
def O8 : List (Cal Rw) := [q23, q24, q25, q26, q27]
def K8 : List (Cut Rw) := []
theorem d8 : Sound Tryz.prog q8 := fn_d (O := O8) (cs := K8) (cons_ d23 (cons_ d24 (cons_ d25 (cons_ d26 (cons_ d27 nil_))))) mixed Tryz.func8 nil_ nil_ fun k a h Z K z e => by
  unfold Q8 at e; split at e
  · rename_i a0_5 a1 l0_0 l0_1 l0_2 l0_3 l0_4
    exact ent e (Lo.of (b := ((laws_szAccountS.f l0_0 a1).bind fun r8 => (if r8 < 0 then (some (o8 l0_0 l0_1 l0_2 l0_3 l0_4 (-1))) else ((laws_szInstrS.f l0_1 r8).bind fun r9 => (if r9 < 0 then (some (o8 l0_0 l0_1 l0_2 l0_3 l0_4 (-1))) else ((laws_szBalS.f l0_2 r9).bind fun r10 => (if r10 < 0 then (some (o8 l0_0 l0_1 l0_2 l0_3 l0_4 (-1))) else ((laws_szLotS.f l0_3 r10).bind fun r11 => (if r11 < 0 then (some (o8 l0_0 l0_1 l0_2 l0_3 l0_4 (-1))) else ((laws_szTradeS.f l0_4 r11).bind fun r12 => (if r12 < 0 then (some (o8 l0_0 l0_1 l0_2 l0_3 l0_4 (-1))) else (some (o8 l0_0 l0_1 l0_2 l0_3 l0_4 r12))))))))))))) (by kernel_rfl) (by unfold laws_szBooks.f; exact lo_))
  · cases e
def o84 (r : Int × Int) : Out Rw := ⟨[.ag [.sc (.i .i64 r.1), .sc (.i .i64 r.2)]], []⟩
def Q84 : Mean Rw := fun k a h Z K => match a, h with
  | [.w (.ag [.sc (.i .i64 a0_0), .sc (.i .i64 a0_1)])], [] => (laws_toAccount.f a0_0 a0_1).bind fun r => K (o84 r)
  | _, _ => none
def q84 : Cal Rw := ⟨84, false, Q84⟩
def O84 : List (Cal Rw) := []
def K84 : List (Cut Rw) := []
theorem d84 : Sound Tryz.prog q84 := fn_d (O := O84) (cs := K84) nil_ mixed Tryz.func84 nil_ nil_ fun k a h Z K z e => by
  unfold Q84 at e; split at e
  · rename_i a0_0 a0_1
    exact ent e (Lo.of (b := (some (o84 (a0_0, a0_1)))) (by kernel_rfl) (by unfold laws_toAccount.f; exact lo_))
  · cases e
def o32 (l0 : List S103) (r : (List (S80))) : Out Rw := ⟨[.c (.rw 1)], [.rows 0 (.e103 l0), .rows 2 (.e80 r)]⟩
def Q32 : Mean Rw := fun k a h Z K => match a, h with
  | [.w (.c (.rw 0))], [.rows 0 (.e103 l0)] => (laws_toAccountS.f k l0).bind fun r => K (o32 l0 r)
  | _, _ => none
def q32 : Cal Rw := ⟨32, false, Q32⟩
def O32 : List (Cal Rw) := [q84]
def C32_0 : Nat → St Rw → Option (Out Rw) := fun k st => match st with
  | ⟨23, 1, 2, [(0, .w (.c (.rw 0))), (3, .w (.c (.rw 1))), (4, .w (.c (.sc (.i .i64 x4))))], [(0, .rows 0 (.e103 l0)), (1, .rows 2 (.e80 y1))]⟩ => (laws_toAccountS.l0 k l0 y1 x4).bind fun r => some (o32 l0 r)
  | _ => none
def K32 : List (Cut Rw) := [⟨[false, true, false, true, true], [0, 3, 4], C32_0⟩]
theorem h32_0 : HH Tryz.prog O32 K32 Tryz.f32 [false, true, false, true, true] C32_0 := fun k st out h => by
  unfold C32_0 at h; split at h
  · rename_i x4 l0 y1
    exact Lo.of (b := (if x4 < (l0.length : Int) then (if 0 ≤ x4 then (if x4 < (l0.length : Int) then ((laws_toAccount.f (rd_T103 l0 x4).f0 (rd_T103 l0 x4).f1).bind fun r4 => (if 0 ≤ x4 then (if x4 < (y1.length : Int) then ((some (y1.set x4.toNat (⟨r4.1, r4.2⟩ : S80))).bind fun y5 => ((laws_toAccountS.l0 k l0 y5 (RowKit.wrap64 (x4 + 1))).bind fun r => some (o32 l0 r))) else none) else none)) else none) else none) else (some (o32 l0 y1)))) (by kernel_rfl) (by rw [laws_toAccountS.l0]; exact lo_) _ h
  · cases h
theorem d32 : Sound Tryz.prog q32 := fn_d (O := O32) (cs := K32) (cons_ d84 nil_) mixed Tryz.func32 (cons_ (fun st => by show C32_0 0 st = none; unfold C32_0; split <;> rfl) nil_) (cons_ h32_0 nil_) fun k a h Z K z e => by
  unfold Q32 at e; split at e
  · rename_i l0
    exact ent e (Lo.of (b := (if (l0.length : Int) = (l0.length : Int) then (if 0 ≤ (l0.length : Int) then (if (l0.length : Int) < 17592186044417 then ((laws_toAccountS.l0 k l0 (List.replicate ((l0.length : Int)).toNat z80) 0).bind fun r => some (o32 l0 r)) else none) else none) else none)) (by kernel_rfl) (by unfold laws_toAccountS.f; exact lo_))
  · cases e
def o85 (r : Int × Int) : Out Rw := ⟨[.ag [.sc (.i .i64 r.1), .sc (.i .i64 r.2)]], []⟩
def Q85 : Mean Rw := fun k a h Z K => match a, h with
  | [.w (.ag [.sc (.i .i64 a0_0), .sc (.i .i64 a0_1)])], [] => (laws_toInstr.f a0_0 a0_1).bind fun r => K (o85 r)
  | _, _ => none
def q85 : Cal Rw := ⟨85, false, Q85⟩
def O85 : List (Cal Rw) := []
def K85 : List (Cut Rw) := []
theorem d85 : Sound Tryz.prog q85 := fn_d (O := O85) (cs := K85) nil_ mixed Tryz.func85 nil_ nil_ fun k a h Z K z e => by
  unfold Q85 at e; split at e
  · rename_i a0_0 a0_1
    exact ent e (Lo.of (b := (some (o85 (a0_0, a0_1)))) (by kernel_rfl) (by unfold laws_toInstr.f; exact lo_))
  · cases e
def o33 (l0 : List S105) (r : (List (S84))) : Out Rw := ⟨[.c (.rw 1)], [.rows 0 (.e105 l0), .rows 2 (.e84 r)]⟩
def Q33 : Mean Rw := fun k a h Z K => match a, h with
  | [.w (.c (.rw 0))], [.rows 0 (.e105 l0)] => (laws_toInstrS.f k l0).bind fun r => K (o33 l0 r)
  | _, _ => none
def q33 : Cal Rw := ⟨33, false, Q33⟩
def O33 : List (Cal Rw) := [q85]
def C33_0 : Nat → St Rw → Option (Out Rw) := fun k st => match st with
  | ⟨23, 1, 2, [(0, .w (.c (.rw 0))), (3, .w (.c (.rw 1))), (4, .w (.c (.sc (.i .i64 x4))))], [(0, .rows 0 (.e105 l0)), (1, .rows 2 (.e84 y1))]⟩ => (laws_toInstrS.l0 k l0 y1 x4).bind fun r => some (o33 l0 r)
  | _ => none
def K33 : List (Cut Rw) := [⟨[false, true, false, true, true], [0, 3, 4], C33_0⟩]
theorem h33_0 : HH Tryz.prog O33 K33 Tryz.f33 [false, true, false, true, true] C33_0 := fun k st out h => by
  unfold C33_0 at h; split at h
  · rename_i x4 l0 y1
    exact Lo.of (b := (if x4 < (l0.length : Int) then (if 0 ≤ x4 then (if x4 < (l0.length : Int) then ((laws_toInstr.f (rd_T105 l0 x4).f0 (rd_T105 l0 x4).f1).bind fun r4 => (if 0 ≤ x4 then (if x4 < (y1.length : Int) then ((some (y1.set x4.toNat (⟨r4.1, r4.2⟩ : S84))).bind fun y5 => ((laws_toInstrS.l0 k l0 y5 (RowKit.wrap64 (x4 + 1))).bind fun r => some (o33 l0 r))) else none) else none)) else none) else none) else (some (o33 l0 y1)))) (by kernel_rfl) (by rw [laws_toInstrS.l0]; exact lo_) _ h
  · cases h
theorem d33 : Sound Tryz.prog q33 := fn_d (O := O33) (cs := K33) (cons_ d85 nil_) mixed Tryz.func33 (cons_ (fun st => by show C33_0 0 st = none; unfold C33_0; split <;> rfl) nil_) (cons_ h33_0 nil_) fun k a h Z K z e => by
  unfold Q33 at e; split at e
  · rename_i l0
    exact ent e (Lo.of (b := (if (l0.length : Int) = (l0.length : Int) then (if 0 ≤ (l0.length : Int) then (if (l0.length : Int) < 17592186044417 then ((laws_toInstrS.l0 k l0 (List.replicate ((l0.length : Int)).toNat z84) 0).bind fun r => some (o33 l0 r)) else none) else none) else none)) (by kernel_rfl) (by unfold laws_toInstrS.f; exact lo_))
  · cases e
def o86 (r : Int × Int × Int) : Out Rw := ⟨[.ag [.sc (.i .i64 r.1), .sc (.i .i64 r.2.1), .sc (.i .i64 r.2.2)]], []⟩
def Q86 : Mean Rw := fun k a h Z K => match a, h with
  | [.w (.ag [.sc (.i .i64 a0_0), .sc (.i .i64 a0_1), .sc (.i .i64 a0_2)])], [] => (laws_toBal.f a0_0 a0_1 a0_2).bind fun r => K (o86 r)
  | _, _ => none
def q86 : Cal Rw := ⟨86, false, Q86⟩
def O86 : List (Cal Rw) := []
def K86 : List (Cut Rw) := []
theorem d86 : Sound Tryz.prog q86 := fn_d (O := O86) (cs := K86) nil_ mixed Tryz.func86 nil_ nil_ fun k a h Z K z e => by
  unfold Q86 at e; split at e
  · rename_i a0_0 a0_1 a0_2
    exact ent e (Lo.of (b := (some (o86 (a0_0, a0_1, a0_2)))) (by kernel_rfl) (by unfold laws_toBal.f; exact lo_))
  · cases e
def o34 (l0 : List S108) (r : (List (S106))) : Out Rw := ⟨[.c (.rw 1)], [.rows 0 (.e108 l0), .rows 2 (.e106 r)]⟩
def Q34 : Mean Rw := fun k a h Z K => match a, h with
  | [.w (.c (.rw 0))], [.rows 0 (.e108 l0)] => (laws_toBalS.f k l0).bind fun r => K (o34 l0 r)
  | _, _ => none
def q34 : Cal Rw := ⟨34, false, Q34⟩
def O34 : List (Cal Rw) := [q86]
def C34_0 : Nat → St Rw → Option (Out Rw) := fun k st => match st with
  | ⟨23, 1, 2, [(0, .w (.c (.rw 0))), (3, .w (.c (.rw 1))), (4, .w (.c (.sc (.i .i64 x4))))], [(0, .rows 0 (.e108 l0)), (1, .rows 2 (.e106 y1))]⟩ => (laws_toBalS.l0 k l0 y1 x4).bind fun r => some (o34 l0 r)
  | _ => none
def K34 : List (Cut Rw) := [⟨[false, true, false, true, true], [0, 3, 4], C34_0⟩]
theorem h34_0 : HH Tryz.prog O34 K34 Tryz.f34 [false, true, false, true, true] C34_0 := fun k st out h => by
  unfold C34_0 at h; split at h
  · rename_i x4 l0 y1
    exact Lo.of (b := (if x4 < (l0.length : Int) then (if 0 ≤ x4 then (if x4 < (l0.length : Int) then ((laws_toBal.f (rd_T108 l0 x4).f0 (rd_T108 l0 x4).f1 (rd_T108 l0 x4).f2).bind fun r4 => (if 0 ≤ x4 then (if x4 < (y1.length : Int) then ((some (y1.set x4.toNat (⟨r4.1, r4.2.1, r4.2.2⟩ : S106))).bind fun y5 => ((laws_toBalS.l0 k l0 y5 (RowKit.wrap64 (x4 + 1))).bind fun r => some (o34 l0 r))) else none) else none)) else none) else none) else (some (o34 l0 y1)))) (by kernel_rfl) (by rw [laws_toBalS.l0]; exact lo_) _ h
  · cases h
theorem d34 : Sound Tryz.prog q34 := fn_d (O := O34) (cs := K34) (cons_ d86 nil_) mixed Tryz.func34 (cons_ (fun st => by show C34_0 0 st = none; unfold C34_0; split <;> rfl) nil_) (cons_ h34_0 nil_) fun k a h Z K z e => by
  unfold Q34 at e; split at e
  · rename_i l0
    exact ent e (Lo.of (b := (if (l0.length : Int) = (l0.length : Int) then (if 0 ≤ (l0.length : Int) then (if (l0.length : Int) < 11728124029611 then ((laws_toBalS.l0 k l0 (List.replicate ((l0.length : Int)).toNat z106) 0).bind fun r => some (o34 l0 r)) else none) else none) else none)) (by kernel_rfl) (by unfold laws_toBalS.f; exact lo_))
  · cases e
def o87 (r : Int × Int × Int × Int × Int) : Out Rw := ⟨[.ag [.sc (.i .i64 r.1), .sc (.i .i64 r.2.1), .sc (.i .i64 r.2.2.1), .sc (.i .i64 r.2.2.2.1), .sc (.i .i64 r.2.2.2.2)]], []⟩
def Q87 : Mean Rw := fun k a h Z K => match a, h with
  | [.w (.ag [.sc (.i .i64 a0_0), .sc (.i .i64 a0_1), .sc (.i .i64 a0_2), .sc (.i .i64 a0_3), .sc (.i .i64 a0_4)])], [] => (laws_toLot.f a0_0 a0_1 a0_2 a0_3 a0_4).bind fun r => K (o87 r)
  | _, _ => none
def q87 : Cal Rw := ⟨87, false, Q87⟩
def O87 : List (Cal Rw) := []
def K87 : List (Cut Rw) := []
theorem d87 : Sound Tryz.prog q87 := fn_d (O := O87) (cs := K87) nil_ mixed Tryz.func87 nil_ nil_ fun k a h Z K z e => by
  unfold Q87 at e; split at e
  · rename_i a0_0 a0_1 a0_2 a0_3 a0_4
    exact ent e (Lo.of (b := (some (o87 (a0_0, a0_1, a0_2, a0_3, a0_4)))) (by kernel_rfl) (by unfold laws_toLot.f; exact lo_))
  · cases e
def o35 (l0 : List S112) (r : (List (S110))) : Out Rw := ⟨[.c (.rw 1)], [.rows 0 (.e112 l0), .rows 2 (.e110 r)]⟩
def Q35 : Mean Rw := fun k a h Z K => match a, h with
  | [.w (.c (.rw 0))], [.rows 0 (.e112 l0)] => (laws_toLotS.f k l0).bind fun r => K (o35 l0 r)
  | _, _ => none
def q35 : Cal Rw := ⟨35, false, Q35⟩
def O35 : List (Cal Rw) := [q87]
def C35_0 : Nat → St Rw → Option (Out Rw) := fun k st => match st with
  | ⟨23, 1, 2, [(0, .w (.c (.rw 0))), (3, .w (.c (.rw 1))), (4, .w (.c (.sc (.i .i64 x4))))], [(0, .rows 0 (.e112 l0)), (1, .rows 2 (.e110 y1))]⟩ => (laws_toLotS.l0 k l0 y1 x4).bind fun r => some (o35 l0 r)
  | _ => none
def K35 : List (Cut Rw) := [⟨[false, true, false, true, true], [0, 3, 4], C35_0⟩]
theorem h35_0 : HH Tryz.prog O35 K35 Tryz.f35 [false, true, false, true, true] C35_0 := fun k st out h => by
  unfold C35_0 at h; split at h
  · rename_i x4 l0 y1
    exact Lo.of (b := (if x4 < (l0.length : Int) then (if 0 ≤ x4 then (if x4 < (l0.length : Int) then ((laws_toLot.f (rd_T112 l0 x4).f0 (rd_T112 l0 x4).f1 (rd_T112 l0 x4).f2 (rd_T112 l0 x4).f3 (rd_T112 l0 x4).f4).bind fun r4 => (if 0 ≤ x4 then (if x4 < (y1.length : Int) then ((some (y1.set x4.toNat (⟨r4.1, r4.2.1, r4.2.2.1, r4.2.2.2.1, r4.2.2.2.2⟩ : S110))).bind fun y5 => ((laws_toLotS.l0 k l0 y5 (RowKit.wrap64 (x4 + 1))).bind fun r => some (o35 l0 r))) else none) else none)) else none) else none) else (some (o35 l0 y1)))) (by kernel_rfl) (by rw [laws_toLotS.l0]; exact lo_) _ h
  · cases h
theorem d35 : Sound Tryz.prog q35 := fn_d (O := O35) (cs := K35) (cons_ d87 nil_) mixed Tryz.func35 (cons_ (fun st => by show C35_0 0 st = none; unfold C35_0; split <;> rfl) nil_) (cons_ h35_0 nil_) fun k a h Z K z e => by
  unfold Q35 at e; split at e
  · rename_i l0
    exact ent e (Lo.of (b := (if (l0.length : Int) = (l0.length : Int) then (if 0 ≤ (l0.length : Int) then (if (l0.length : Int) < 7036874417767 then ((laws_toLotS.l0 k l0 (List.replicate ((l0.length : Int)).toNat z110) 0).bind fun r => some (o35 l0 r)) else none) else none) else none)) (by kernel_rfl) (by unfold laws_toLotS.f; exact lo_))
  · cases e
def o88 (r : Int × Int × Int × Int × Int × Int × Int × Int) : Out Rw := ⟨[.ag [.sc (.i .i64 r.1), .sc (.i .i64 r.2.1), .sc (.i .i64 r.2.2.1), .sc (.i .i64 r.2.2.2.1), .sc (.i .i64 r.2.2.2.2.1), .sc (.i .i64 r.2.2.2.2.2.1), .sc (.i .i64 r.2.2.2.2.2.2.1), .sc (.i .i64 r.2.2.2.2.2.2.2)]], []⟩
def Q88 : Mean Rw := fun k a h Z K => match a, h with
  | [.w (.ag [.sc (.i .i64 a0_0), .sc (.i .i64 a0_1), .sc (.i .i64 a0_2), .sc (.i .i64 a0_3), .sc (.i .i64 a0_4), .sc (.i .i64 a0_5), .sc (.i .i64 a0_6), .sc (.i .i64 a0_7)])], [] => (laws_toTrade.f a0_0 a0_1 a0_2 a0_3 a0_4 a0_5 a0_6 a0_7).bind fun r => K (o88 r)
  | _, _ => none
def q88 : Cal Rw := ⟨88, false, Q88⟩
def O88 : List (Cal Rw) := []
def K88 : List (Cut Rw) := []
theorem d88 : Sound Tryz.prog q88 := fn_d (O := O88) (cs := K88) nil_ mixed Tryz.func88 nil_ nil_ fun k a h Z K z e => by
  unfold Q88 at e; split at e
  · rename_i a0_0 a0_1 a0_2 a0_3 a0_4 a0_5 a0_6 a0_7
    exact ent e (Lo.of (b := (some (o88 (a0_0, a0_1, a0_2, a0_3, a0_4, a0_5, a0_6, a0_7)))) (by kernel_rfl) (by unfold laws_toTrade.f; exact lo_))
  · cases e
def o36 (l0 : List S114) (r : (List (S60))) : Out Rw := ⟨[.c (.rw 1)], [.rows 0 (.e114 l0), .rows 2 (.e60 r)]⟩
def Q36 : Mean Rw := fun k a h Z K => match a, h with
  | [.w (.c (.rw 0))], [.rows 0 (.e114 l0)] => (laws_toTradeS.f k l0).bind fun r => K (o36 l0 r)
  | _, _ => none
def q36 : Cal Rw := ⟨36, false, Q36⟩
def O36 : List (Cal Rw) := [q88]
def C36_0 : Nat → St Rw → Option (Out Rw) := fun k st => match st with
  | ⟨23, 1, 2, [(0, .w (.c (.rw 0))), (3, .w (.c (.rw 1))), (4, .w (.c (.sc (.i .i64 x4))))], [(0, .rows 0 (.e114 l0)), (1, .rows 2 (.e60 y1))]⟩ => (laws_toTradeS.l0 k l0 y1 x4).bind fun r => some (o36 l0 r)
  | _ => none
def K36 : List (Cut Rw) := [⟨[false, true, false, true, true], [0, 3, 4], C36_0⟩]
theorem h36_0 : HH Tryz.prog O36 K36 Tryz.f36 [false, true, false, true, true] C36_0 := fun k st out h => by
  unfold C36_0 at h; split at h
  · rename_i x4 l0 y1
    exact Lo.of (b := (if x4 < (l0.length : Int) then (if 0 ≤ x4 then (if x4 < (l0.length : Int) then ((laws_toTrade.f (rd_T114 l0 x4).f0 (rd_T114 l0 x4).f1 (rd_T114 l0 x4).f2 (rd_T114 l0 x4).f3 (rd_T114 l0 x4).f4 (rd_T114 l0 x4).f5 (rd_T114 l0 x4).f6 (rd_T114 l0 x4).f7).bind fun r4 => (if 0 ≤ x4 then (if x4 < (y1.length : Int) then ((some (y1.set x4.toNat (⟨r4.1, r4.2.1, r4.2.2.1, r4.2.2.2.1, r4.2.2.2.2.1, r4.2.2.2.2.2.1, r4.2.2.2.2.2.2.1, r4.2.2.2.2.2.2.2⟩ : S60))).bind fun y5 => ((laws_toTradeS.l0 k l0 y5 (RowKit.wrap64 (x4 + 1))).bind fun r => some (o36 l0 r))) else none) else none)) else none) else none) else (some (o36 l0 y1)))) (by kernel_rfl) (by rw [laws_toTradeS.l0]; exact lo_) _ h
  · cases h
theorem d36 : Sound Tryz.prog q36 := fn_d (O := O36) (cs := K36) (cons_ d88 nil_) mixed Tryz.func36 (cons_ (fun st => by show C36_0 0 st = none; unfold C36_0; split <;> rfl) nil_) (cons_ h36_0 nil_) fun k a h Z K z e => by
  unfold Q36 at e; split at e
  · rename_i l0
    exact ent e (Lo.of (b := (if (l0.length : Int) = (l0.length : Int) then (if 0 ≤ (l0.length : Int) then (if (l0.length : Int) < 4398046511105 then ((laws_toTradeS.l0 k l0 (List.replicate ((l0.length : Int)).toNat z60) 0).bind fun r => some (o36 l0 r)) else none) else none) else none)) (by kernel_rfl) (by unfold laws_toTradeS.f; exact lo_))
  · cases e
def o10 (l0_0 : List S103) (l0_1 : List S105) (l0_2 : List S108) (l0_3 : List S112) (l0_4 : List S114) (r : (List (S80)) × (List (S84)) × (List (S106)) × (List (S110)) × (List (S60)) × Int) : Out Rw := ⟨[.ag [.rw 5, .rw 6, .rw 7, .rw 8, .rw 9, .sc (.i .i64 r.2.2.2.2.2)]], [.rows 0 (.e103 l0_0), .rows 0 (.e105 l0_1), .rows 0 (.e108 l0_2), .rows 0 (.e112 l0_3), .rows 0 (.e114 l0_4), .rows 2 (.e80 r.1), .rows 2 (.e84 r.2.1), .rows 2 (.e106 r.2.2.1), .rows 2 (.e110 r.2.2.2.1), .rows 2 (.e60 r.2.2.2.2.1)]⟩
def Q10 : Mean Rw := fun k a h Z K => match a, h with
  | [.w (.ag [.rw 0, .rw 1, .rw 2, .rw 3, .rw 4, .sc (.i .i64 a0_5)])], [.rows 0 (.e103 l0_0), .rows 0 (.e105 l0_1), .rows 0 (.e108 l0_2), .rows 0 (.e112 l0_3), .rows 0 (.e114 l0_4)] => (laws_toBooks.f k l0_0 l0_1 l0_2 l0_3 l0_4 a0_5).bind fun r => K (o10 l0_0 l0_1 l0_2 l0_3 l0_4 r)
  | _, _ => none
def q10 : Cal Rw := ⟨10, false, Q10⟩
def O10 : List (Cal Rw) := [q32, q33, q34, q35, q36]
def K10 : List (Cut Rw) := []
theorem d10 : Sound Tryz.prog q10 := fn_d (O := O10) (cs := K10) (cons_ d32 (cons_ d33 (cons_ d34 (cons_ d35 (cons_ d36 nil_))))) mixed Tryz.func10 nil_ nil_ fun k a h Z K z e => by
  unfold Q10 at e; split at e
  · rename_i a0_5 l0_0 l0_1 l0_2 l0_3 l0_4
    exact ent e (Lo.of (b := ((laws_toAccountS.f k l0_0).bind fun r7 => ((laws_toInstrS.f k l0_1).bind fun r8 => ((laws_toBalS.f k l0_2).bind fun r9 => ((laws_toLotS.f k l0_3).bind fun r10 => ((laws_toTradeS.f k l0_4).bind fun r11 => (some (o10 l0_0 l0_1 l0_2 l0_3 l0_4 (r7, r8, r9, r10, r11, a0_5))))))))) (by kernel_rfl) (by unfold laws_toBooks.f; exact lo_))
  · cases e
def o56 (r : Bool) : Out Rw := ⟨[.c (.sc (.b r))], []⟩
def Q56 : Mean Rw := fun k a h Z K => match a, h with
  | [.w (.c (.sc (.i .i64 a0))), .w (.c (.sc (.i .i64 a1))), .w (.c (.sc (.i .i64 a2)))], [] => (spec_l1In.f a0 a1 a2).bind fun r => K (o56 r)
  | _, _ => none
def q56 : Cal Rw := ⟨56, false, Q56⟩
def O56 : List (Cal Rw) := []
def K56 : List (Cut Rw) := []
theorem d56 : Sound Tryz.prog q56 := fn_d (O := O56) (cs := K56) nil_ mixed Tryz.func56 nil_ nil_ fun k a h Z K z e => by
  unfold Q56 at e; split at e
  · rename_i a0 a1 a2
    exact ent e (Lo.of (b := (if a0 ≥ a1 then (some (o56 (decide (a0 ≤ a2)))) else (some (o56 false)))) (by kernel_rfl) (by unfold spec_l1In.f; exact lo_))
  · cases e
def o29 (r : Bool) : Out Rw := ⟨[.c (.sc (.b r))], []⟩
def Q29 : Mean Rw := fun k a h Z K => match a, h with
  | [.w (.c (.sc (.i .i64 a0)))], [] => (spec_l3No.f a0).bind fun r => K (o29 r)
  | _, _ => none
def q29 : Cal Rw := ⟨29, false, Q29⟩
def O29 : List (Cal Rw) := [q56]
def K29 : List (Cut Rw) := []
theorem d29 : Sound Tryz.prog q29 := fn_d (O := O29) (cs := K29) (cons_ d56 nil_) mixed Tryz.func29 nil_ nil_ fun k a h Z K z e => by
  unfold Q29 at e; split at e
  · rename_i a0
    exact ent e (Lo.of (b := ((spec_l1In.f a0 1 1000).bind fun r2 => (some (o29 r2)))) (by kernel_rfl) (by unfold spec_l3No.f; exact lo_))
  · cases e
def o76 (l0 : List S80) (r : Bool) : Out Rw := ⟨[.c (.sc (.b r))], [.rows 0 (.e80 l0)]⟩
def Q76 : Mean Rw := fun k a h Z K => match a, h with
  | [.w (.c (.rw 0))], [.rows 0 (.e80 l0)] => (spec_AccountsOk.f k l0).bind fun r => K (o76 l0 r)
  | _, _ => none
def q76 : Cal Rw := ⟨76, false, Q76⟩
def O76 : List (Cal Rw) := [q29, q56]
def C76_0 : Nat → St Rw → Option (Out Rw) := fun k st => match st with
  | ⟨47, 1, 1, [(0, .w (.c (.rw 0))), (3, .w (.c (.sc (.i .i64 x3))))], [(0, .rows 0 (.e80 l0))]⟩ => (spec_AccountsOk.l0 k l0 x3).bind fun r => some (o76 l0 r)
  | _ => none
def K76 : List (Cut Rw) := [⟨[false, true, false, true, true], [0, 3], C76_0⟩]
theorem h76_0 : HH Tryz.prog O76 K76 Tryz.f76 [false, true, false, true, true] C76_0 := fun k st out h => by
  unfold C76_0 at h; split at h
  · rename_i x3 l0
    exact Lo.of (b := (if x3 < (l0.length : Int) then (if 0 ≤ x3 then (if x3 < (l0.length : Int) then ((spec_l3No.f (rd_T80 l0 x3).f0).bind fun r3 => (if r3 = true then (if 0 ≤ x3 then (if x3 < (l0.length : Int) then ((spec_l1In.f (rd_T80 l0 x3).f1 1 4).bind fun r4 => (if r4 = true then (if x3 > 0 then (if 0 ≤ RowKit.wrap64 (x3 - 1) then (if RowKit.wrap64 (x3 - 1) < (l0.length : Int) then (if 0 ≤ x3 then (if x3 < (l0.length : Int) then (if (rd_T80 l0 (RowKit.wrap64 (x3 - 1))).f0 ≥ (rd_T80 l0 x3).f0 then (some (o76 l0 false)) else ((spec_AccountsOk.l0 k l0 (RowKit.wrap64 (x3 + 1))).bind fun r => some (o76 l0 r))) else none) else none) else none) else none) else ((spec_AccountsOk.l0 k l0 (RowKit.wrap64 (x3 + 1))).bind fun r => some (o76 l0 r))) else (some (o76 l0 false)))) else none) else none) else (some (o76 l0 false)))) else none) else none) else (some (o76 l0 true)))) (by kernel_rfl) (by rw [spec_AccountsOk.l0]; exact lo_) _ h
  · cases h
theorem d76 : Sound Tryz.prog q76 := fn_d (O := O76) (cs := K76) (cons_ d29 (cons_ d56 nil_)) mixed Tryz.func76 (cons_ (fun st => by show C76_0 0 st = none; unfold C76_0; split <;> rfl) nil_) (cons_ h76_0 nil_) fun k a h Z K z e => by
  unfold Q76 at e; split at e
  · rename_i l0
    exact ent e (Lo.of (b := (if (l0.length : Int) > 20 then (some (o76 l0 false)) else ((spec_AccountsOk.l0 k l0 0).bind fun r => some (o76 l0 r)))) (by kernel_rfl) (by unfold spec_AccountsOk.f; exact lo_))
  · cases e
def o77 (l0 : List S84) (r : Bool) : Out Rw := ⟨[.c (.sc (.b r))], [.rows 0 (.e84 l0)]⟩
def Q77 : Mean Rw := fun k a h Z K => match a, h with
  | [.w (.c (.rw 0))], [.rows 0 (.e84 l0)] => (spec_InstrsOk.f k l0).bind fun r => K (o77 l0 r)
  | _, _ => none
def q77 : Cal Rw := ⟨77, false, Q77⟩
def O77 : List (Cal Rw) := [q29, q56]
def C77_0 : Nat → St Rw → Option (Out Rw) := fun k st => match st with
  | ⟨47, 1, 1, [(0, .w (.c (.rw 0))), (3, .w (.c (.sc (.i .i64 x3))))], [(0, .rows 0 (.e84 l0))]⟩ => (spec_InstrsOk.l0 k l0 x3).bind fun r => some (o77 l0 r)
  | _ => none
def K77 : List (Cut Rw) := [⟨[false, true, false, true, true], [0, 3], C77_0⟩]
theorem h77_0 : HH Tryz.prog O77 K77 Tryz.f77 [false, true, false, true, true] C77_0 := fun k st out h => by
  unfold C77_0 at h; split at h
  · rename_i x3 l0
    exact Lo.of (b := (if x3 < (l0.length : Int) then (if 0 ≤ x3 then (if x3 < (l0.length : Int) then ((spec_l3No.f (rd_T84 l0 x3).f0).bind fun r3 => (if r3 = true then (if 0 ≤ x3 then (if x3 < (l0.length : Int) then ((spec_l1In.f (rd_T84 l0 x3).f1 1 2).bind fun r4 => (if r4 = true then (if x3 > 0 then (if 0 ≤ RowKit.wrap64 (x3 - 1) then (if RowKit.wrap64 (x3 - 1) < (l0.length : Int) then (if 0 ≤ x3 then (if x3 < (l0.length : Int) then (if (rd_T84 l0 (RowKit.wrap64 (x3 - 1))).f0 ≥ (rd_T84 l0 x3).f0 then (some (o77 l0 false)) else ((spec_InstrsOk.l0 k l0 (RowKit.wrap64 (x3 + 1))).bind fun r => some (o77 l0 r))) else none) else none) else none) else none) else ((spec_InstrsOk.l0 k l0 (RowKit.wrap64 (x3 + 1))).bind fun r => some (o77 l0 r))) else (some (o77 l0 false)))) else none) else none) else (some (o77 l0 false)))) else none) else none) else (some (o77 l0 true)))) (by kernel_rfl) (by rw [spec_InstrsOk.l0]; exact lo_) _ h
  · cases h
theorem d77 : Sound Tryz.prog q77 := fn_d (O := O77) (cs := K77) (cons_ d29 (cons_ d56 nil_)) mixed Tryz.func77 (cons_ (fun st => by show C77_0 0 st = none; unfold C77_0; split <;> rfl) nil_) (cons_ h77_0 nil_) fun k a h Z K z e => by
  unfold Q77 at e; split at e
  · rename_i l0
    exact ent e (Lo.of (b := (if (l0.length : Int) > 8 then (some (o77 l0 false)) else ((spec_InstrsOk.l0 k l0 0).bind fun r => some (o77 l0 r)))) (by kernel_rfl) (by unfold spec_InstrsOk.f; exact lo_))
  · cases e
def o122 (r : Bool) : Out Rw := ⟨[.c (.sc (.b r))], []⟩
def Q122 : Mean Rw := fun k a h Z K => match a, h with
  | [.w (.c (.sc (.i .i64 a0)))], [] => (spec_AmountOk.f a0).bind fun r => K (o122 r)
  | _, _ => none
def q122 : Cal Rw := ⟨122, false, Q122⟩
def O122 : List (Cal Rw) := [q56]
def K122 : List (Cut Rw) := []
theorem d122 : Sound Tryz.prog q122 := fn_d (O := O122) (cs := K122) (cons_ d56 nil_) mixed Tryz.func122 nil_ nil_ fun k a h Z K z e => by
  unfold Q122 at e; split at e
  · rename_i a0
    exact ent e (Lo.of (b := ((spec_l1In.f a0 (-1000000000000000) 1000000000000000).bind fun r2 => (some (o122 r2)))) (by kernel_rfl) (by unfold spec_AmountOk.f; exact lo_))
  · cases e
def o123 (r : Bool) : Out Rw := ⟨[.c (.sc (.b r))], []⟩
def Q123 : Mean Rw := fun k a h Z K => match a, h with
  | [.w (.c (.sc (.i .i64 a0))), .w (.c (.sc (.i .i64 a1))), .w (.c (.sc (.i .i64 a2))), .w (.c (.sc (.i .i64 a3)))], [] => (spec_l4Before.f a0 a1 a2 a3).bind fun r => K (o123 r)
  | _, _ => none
def q123 : Cal Rw := ⟨123, false, Q123⟩
def O123 : List (Cal Rw) := []
def K123 : List (Cut Rw) := []
theorem d123 : Sound Tryz.prog q123 := fn_d (O := O123) (cs := K123) nil_ mixed Tryz.func123 nil_ nil_ fun k a h Z K z e => by
  unfold Q123 at e; split at e
  · rename_i a0 a1 a2 a3
    exact ent e (Lo.of (b := (if a0 < a2 then (some (o123 true)) else (if a0 = a2 then (some (o123 (decide (a1 < a3)))) else (some (o123 false))))) (by kernel_rfl) (by unfold spec_l4Before.f; exact lo_))
  · cases e
def o78 (l0 : List S106) (r : Bool) : Out Rw := ⟨[.c (.sc (.b r))], [.rows 0 (.e106 l0)]⟩
def Q78 : Mean Rw := fun k a h Z K => match a, h with
  | [.w (.c (.rw 0))], [.rows 0 (.e106 l0)] => (spec_BalsOk.f k l0).bind fun r => K (o78 l0 r)
  | _, _ => none
def q78 : Cal Rw := ⟨78, false, Q78⟩
def O78 : List (Cal Rw) := [q29, q122, q123]
def C78_0 : Nat → St Rw → Option (Out Rw) := fun k st => match st with
  | ⟨63, 1, 1, [(0, .w (.c (.rw 0))), (3, .w (.c (.sc (.i .i64 x3))))], [(0, .rows 0 (.e106 l0))]⟩ => (spec_BalsOk.l0 k l0 x3).bind fun r => some (o78 l0 r)
  | _ => none
def K78 : List (Cut Rw) := [⟨[false, true, false, true, true], [0, 3], C78_0⟩]
theorem h78_0 : HH Tryz.prog O78 K78 Tryz.f78 [false, true, false, true, true] C78_0 := fun k st out h => by
  unfold C78_0 at h; split at h
  · rename_i x3 l0
    exact Lo.of (b := (if x3 < (l0.length : Int) then (if 0 ≤ x3 then (if x3 < (l0.length : Int) then ((spec_l3No.f (rd_T106 l0 x3).f0).bind fun r3 => (if r3 = true then ((spec_l3No.f (rd_T106 l0 x3).f1).bind fun r4 => (if r4 = true then ((spec_AmountOk.f (rd_T106 l0 x3).f2).bind fun r5 => (if r5 = true then (if (rd_T106 l0 x3).f2 = 0 then (some (o78 l0 false)) else (if x3 > 0 then (if 0 ≤ RowKit.wrap64 (x3 - 1) then (if RowKit.wrap64 (x3 - 1) < (l0.length : Int) then (if 0 ≤ RowKit.wrap64 (x3 - 1) then (if RowKit.wrap64 (x3 - 1) < (l0.length : Int) then ((spec_l4Before.f (rd_T106 l0 (RowKit.wrap64 (x3 - 1))).f0 (rd_T106 l0 (RowKit.wrap64 (x3 - 1))).f1 (rd_T106 l0 x3).f0 (rd_T106 l0 x3).f1).bind fun r6 => (if r6 = true then ((spec_BalsOk.l0 k l0 (RowKit.wrap64 (x3 + 1))).bind fun r => some (o78 l0 r)) else (some (o78 l0 false)))) else none) else none) else none) else none) else ((spec_BalsOk.l0 k l0 (RowKit.wrap64 (x3 + 1))).bind fun r => some (o78 l0 r)))) else (some (o78 l0 false)))) else (some (o78 l0 false)))) else (some (o78 l0 false)))) else none) else none) else (some (o78 l0 true)))) (by kernel_rfl) (by rw [spec_BalsOk.l0]; exact lo_) _ h
  · cases h
theorem d78 : Sound Tryz.prog q78 := fn_d (O := O78) (cs := K78) (cons_ d29 (cons_ d122 (cons_ d123 nil_))) mixed Tryz.func78 (cons_ (fun st => by show C78_0 0 st = none; unfold C78_0; split <;> rfl) nil_) (cons_ h78_0 nil_) fun k a h Z K z e => by
  unfold Q78 at e; split at e
  · rename_i l0
    exact ent e (Lo.of (b := (if (l0.length : Int) > 160 then (some (o78 l0 false)) else ((spec_BalsOk.l0 k l0 0).bind fun r => some (o78 l0 r)))) (by kernel_rfl) (by unfold spec_BalsOk.f; exact lo_))
  · cases e
def o66 (r : Bool) : Out Rw := ⟨[.c (.sc (.b r))], []⟩
def Q66 : Mean Rw := fun k a h Z K => match a, h with
  | [.w (.c (.sc (.i .i64 a0))), .w (.c (.sc (.i .i64 a1)))], [] => (spec_l1Some.f a0 a1).bind fun r => K (o66 r)
  | _, _ => none
def q66 : Cal Rw := ⟨66, false, Q66⟩
def O66 : List (Cal Rw) := [q56]
def K66 : List (Cut Rw) := []
theorem d66 : Sound Tryz.prog q66 := fn_d (O := O66) (cs := K66) (cons_ d56 nil_) mixed Tryz.func66 nil_ nil_ fun k a h Z K z e => by
  unfold Q66 at e; split at e
  · rename_i a0 a1
    exact ent e (Lo.of (b := ((spec_l1In.f a0 a1 1000000000000000).bind fun r3 => (some (o66 r3)))) (by kernel_rfl) (by unfold spec_l1Some.f; exact lo_))
  · cases e
def o124 (r : Bool) : Out Rw := ⟨[.c (.sc (.b r))], []⟩
def Q124 : Mean Rw := fun k a h Z K => match a, h with
  | [.w (.ag [.sc (.i .i64 a0_0), .sc (.i .i64 a0_1), .sc (.i .i64 a0_2), .sc (.i .i64 a0_3), .sc (.i .i64 a0_4)])], [] => (spec_l5Right.f a0_0 a0_1 a0_2 a0_3 a0_4).bind fun r => K (o124 r)
  | _, _ => none
def q124 : Cal Rw := ⟨124, false, Q124⟩
def O124 : List (Cal Rw) := [q29, q56, q66]
def K124 : List (Cut Rw) := []
theorem d124 : Sound Tryz.prog q124 := fn_d (O := O124) (cs := K124) (cons_ d29 (cons_ d56 (cons_ d66 nil_))) mixed Tryz.func124 nil_ nil_ fun k a h Z K z e => by
  unfold Q124 at e; split at e
  · rename_i a0_0 a0_1 a0_2 a0_3 a0_4
    exact ent e (Lo.of (b := ((spec_l3No.f a0_0).bind fun r6 => (if r6 = true then ((spec_l3No.f a0_1).bind fun r7 => (if r7 = true then ((spec_l1In.f a0_2 1 1000000000).bind fun r8 => (if r8 = true then ((spec_l1Some.f a0_3 1).bind fun r9 => (if r9 = true then ((spec_l1Some.f a0_4 0).bind fun r10 => (some (o124 r10))) else (some (o124 false)))) else (some (o124 false)))) else (some (o124 false)))) else (some (o124 false))))) (by kernel_rfl) (by unfold spec_l5Right.f; exact lo_))
  · cases e
def o125 (r : Bool) : Out Rw := ⟨[.c (.sc (.b r))], []⟩
def Q125 : Mean Rw := fun k a h Z K => match a, h with
  | [.w (.ag [.sc (.i .i64 a0_0), .sc (.i .i64 a0_1), .sc (.i .i64 a0_2), .sc (.i .i64 a0_3), .sc (.i .i64 a0_4)]), .w (.ag [.sc (.i .i64 a1_0), .sc (.i .i64 a1_1), .sc (.i .i64 a1_2), .sc (.i .i64 a1_3), .sc (.i .i64 a1_4)])], [] => (spec_l5Before.f a0_0 a0_1 a0_2 a0_3 a0_4 a1_0 a1_1 a1_2 a1_3 a1_4).bind fun r => K (o125 r)
  | _, _ => none
def q125 : Cal Rw := ⟨125, false, Q125⟩
def O125 : List (Cal Rw) := [q123]
def K125 : List (Cut Rw) := []
theorem d125 : Sound Tryz.prog q125 := fn_d (O := O125) (cs := K125) (cons_ d123 nil_) mixed Tryz.func125 nil_ nil_ fun k a h Z K z e => by
  unfold Q125 at e; split at e
  · rename_i a0_0 a0_1 a0_2 a0_3 a0_4 a1_0 a1_1 a1_2 a1_3 a1_4
    exact ent e (Lo.of (b := ((spec_l4Before.f a0_0 a0_1 a1_0 a1_1).bind fun r11 => (if r11 = true then (some (o125 true)) else (if a0_0 = a1_0 then (if a0_1 = a1_1 then (some (o125 (decide (a0_2 < a1_2)))) else (some (o125 false))) else (some (o125 false)))))) (by kernel_rfl) (by unfold spec_l5Before.f; exact lo_))
  · cases e
end
end Go.Proofs.YtmfgajbkcnlkcaaGreat.AI
namespace Go.Proofs.YtmfgajbkcnlkcaaGreat.AI
open Go Go.RowKit Go.Proofs.YtmfgajbkcnlkcaaGreatW.PrintWords Go.Proofs.YtmfgajbkcnlkcaaGreat.P
set_option linter.unusedVariables false
set_option linter.all false
set_option maxRecDepth 100000
set_option maxHeartbeats 4000000
noncomputable section
def o171 (r : Bool) : Out Rw := ⟨[.c (.sc (.b r))], []⟩
def Q171 : Mean Rw := fun k a h Z K => match a, h with
  | [.w (.ag [.sc (.i .i64 a0_0), .sc (.i .i64 a0_1), .sc (.i .i64 a0_2), .sc (.i .i64 a0_3), .sc (.i .i64 a0_4)]), .w (.c (.sc (.i .i64 a1))), .w (.c (.sc (.i .i64 a2)))], [] => (impl_isLot.f a0_0 a0_1 a0_2 a0_3 a0_4 a1 a2).bind fun r => K (o171 r)
  | _, _ => none
def q171 : Cal Rw := ⟨171, false, Q171⟩
def O171 : List (Cal Rw) := []
def K171 : List (Cut Rw) := []
theorem d171 : Sound Tryz.prog q171 := fn_d (O := O171) (cs := K171) nil_ mixed Tryz.func171 nil_ nil_ fun k a h Z K z e => by
  unfold Q171 at e; split at e
  · rename_i a0_0 a0_1 a0_2 a0_3 a0_4 a1 a2
    exact ent e (Lo.of (b := (if a0_0 = a1 then (some (o171 (decide (a0_1 = a2)))) else (some (o171 false)))) (by kernel_rfl) (by unfold impl_isLot.f; exact lo_))
  · cases e
def o131 (r : Int) : Out Rw := ⟨[.c (.sc (.i .i64 r))], []⟩
def Q131 : Mean Rw := fun k a h Z K => match a, h with
  | [.w (.c (.sc (.i .i64 a0))), .w (.c (.sc (.i .i64 a1))), .w (.c (.sc (.i .i64 a2))), .w (.c (.sc (.i .i64 a3)))], [] => (impl_byBoth.f k a0 a1 a2 a3).bind fun r => K (o131 r)
  | _, _ => none
def q131 : Cal Rw := ⟨131, false, Q131⟩
def O131 : List (Cal Rw) := []
def C131_0 : Nat → St Rw → Option (Out Rw) := fun k st => match st with
  | ⟨32, 0, 0, [(0, .w (.c (.sc (.i .i64 x0)))), (1, .w (.c (.sc (.i .i64 x1)))), (2, .w (.c (.sc (.i .i64 x2)))), (3, .w (.c (.sc (.i .i64 x3)))), (9, .w (.c (.sc (.b x9))))], []⟩ => (impl_byBoth.j0 k x0 x1 x2 x3 x9).bind fun r => some (o131 r)
  | _ => none
def K131 : List (Cut Rw) := [⟨[true, false, false, true], [0, 1, 2, 3, 9], C131_0⟩]
theorem h131_0 : HH Tryz.prog O131 K131 Tryz.f131 [true, false, false, true] C131_0 := fun k st out h => by
  unfold C131_0 at h; split at h
  · rename_i x0 x1 x2 x3 x9
    exact Lo.of (b := (if x9 = true then (some (o131 (-1))) else (if x0 = x2 then (if x1 = x3 then (some (o131 0)) else (some (o131 1))) else (some (o131 1))))) (by kernel_rfl) (by rw [impl_byBoth.j0]; exact lo_) _ h
  · cases h
theorem d131 : Sound Tryz.prog q131 := fn_d (O := O131) (cs := K131) nil_ mixed Tryz.func131 (cons_ (fun st => by show C131_0 0 st = none; unfold C131_0; split <;> rfl) nil_) (cons_ h131_0 nil_) fun k a h Z K z e => by
  unfold Q131 at e; split at e
  · rename_i a0 a1 a2 a3
    exact ent e (Lo.of (b := (if a0 < a2 then ((impl_byBoth.j0 k a0 a1 a2 a3 true).bind fun r => some (o131 r)) else (if a0 = a2 then ((impl_byBoth.j0 k a0 a1 a2 a3 (decide (a1 < a3))).bind fun r => some (o131 r)) else ((impl_byBoth.j0 k a0 a1 a2 a3 false).bind fun r => some (o131 r))))) (by kernel_rfl) (by unfold impl_byBoth.f; exact lo_))
  · cases e
def o133 (r : Int) : Out Rw := ⟨[.c (.sc (.i .i64 r))], []⟩
def Q133 : Mean Rw := fun k a h Z K => match a, h with
  | [.w (.ag [.sc (.i .i64 a0_0), .sc (.i .i64 a0_1), .sc (.i .i64 a0_2), .sc (.i .i64 a0_3), .sc (.i .i64 a0_4)]), .w (.ag [.sc (.i .i64 a1_0), .sc (.i .i64 a1_1), .sc (.i .i64 a1_2), .sc (.i .i64 a1_3), .sc (.i .i64 a1_4)])], [] => (impl_lotBefore.f k a0_0 a0_1 a0_2 a0_3 a0_4 a1_0 a1_1 a1_2 a1_3 a1_4).bind fun r => K (o133 r)
  | _, _ => none
def q133 : Cal Rw := ⟨133, false, Q133⟩
def O133 : List (Cal Rw) := [q131]
def K133 : List (Cut Rw) := []
theorem d133 : Sound Tryz.prog q133 := fn_d (O := O133) (cs := K133) (cons_ d131 nil_) mixed Tryz.func133 nil_ nil_ fun k a h Z K z e => by
  unfold Q133 at e; split at e
  · rename_i a0_0 a0_1 a0_2 a0_3 a0_4 a1_0 a1_1 a1_2 a1_3 a1_4
    exact ent e (Lo.of (b := ((impl_byBoth.f k a0_0 a0_1 a1_0 a1_1).bind fun r11 => (if r11 = 0 then (if a0_2 < a1_2 then (some (o133 (-1))) else (if a0_2 > a1_2 then (some (o133 1)) else (some (o133 0)))) else (some (o133 r11))))) (by kernel_rfl) (by unfold impl_lotBefore.f; exact lo_))
  · cases e
def o59 (r : Bool) : Out Rw := ⟨[.c (.sc (.b r))], []⟩
def Q59 : Mean Rw := fun k a h Z K => match a, h with
  | [.w (.c (.sc (.i .i64 a0))), .w (.c (.sc (.i .i64 a1))), .w (.c (.sc (.i .i64 a2)))], [] => (impl_in.f a0 a1 a2).bind fun r => K (o59 r)
  | _, _ => none
def q59 : Cal Rw := ⟨59, false, Q59⟩
def O59 : List (Cal Rw) := []
def K59 : List (Cut Rw) := []
theorem d59 : Sound Tryz.prog q59 := fn_d (O := O59) (cs := K59) nil_ mixed Tryz.func59 nil_ nil_ fun k a h Z K z e => by
  unfold Q59 at e; split at e
  · rename_i a0 a1 a2
    exact ent e (Lo.of (b := (if a0 ≥ a1 then (some (o59 (decide (a0 ≤ a2)))) else (some (o59 false)))) (by kernel_rfl) (by unfold impl_in.f; exact lo_))
  · cases e
def o38 (r : Bool) : Out Rw := ⟨[.c (.sc (.b r))], []⟩
def Q38 : Mean Rw := fun k a h Z K => match a, h with
  | [.w (.c (.sc (.i .i64 a0)))], [] => (impl_isNo.f a0).bind fun r => K (o38 r)
  | _, _ => none
def q38 : Cal Rw := ⟨38, false, Q38⟩
def O38 : List (Cal Rw) := [q59]
def K38 : List (Cut Rw) := []
theorem d38 : Sound Tryz.prog q38 := fn_d (O := O38) (cs := K38) (cons_ d59 nil_) mixed Tryz.func38 nil_ nil_ fun k a h Z K z e => by
  unfold Q38 at e; split at e
  · rename_i a0
    exact ent e (Lo.of (b := ((impl_in.f a0 1 1000).bind fun r2 => (some (o38 r2)))) (by kernel_rfl) (by unfold impl_isNo.f; exact lo_))
  · cases e
def o132 (r : Bool) : Out Rw := ⟨[.c (.sc (.b r))], []⟩
def Q132 : Mean Rw := fun k a h Z K => match a, h with
  | [.w (.ag [.sc (.i .i64 a0_0), .sc (.i .i64 a0_1), .sc (.i .i64 a0_2), .sc (.i .i64 a0_3), .sc (.i .i64 a0_4)])], [] => (impl_lotForm.f a0_0 a0_1 a0_2 a0_3 a0_4).bind fun r => K (o132 r)
  | _, _ => none
def q132 : Cal Rw := ⟨132, false, Q132⟩
def O132 : List (Cal Rw) := [q38, q59]
def K132 : List (Cut Rw) := []
theorem d132 : Sound Tryz.prog q132 := fn_d (O := O132) (cs := K132) (cons_ d38 (cons_ d59 nil_)) mixed Tryz.func132 nil_ nil_ fun k a h Z K z e => by
  unfold Q132 at e; split at e
  · rename_i a0_0 a0_1 a0_2 a0_3 a0_4
    exact ent e (Lo.of (b := ((impl_isNo.f a0_0).bind fun r6 => (if r6 = true then ((impl_isNo.f a0_1).bind fun r7 => (if r7 = true then ((impl_in.f a0_2 1 1000000000).bind fun r8 => (if r8 = true then ((impl_in.f a0_3 1 1000000000000000).bind fun r9 => (if r9 = true then ((impl_in.f a0_4 0 1000000000000000).bind fun r10 => (some (o132 r10))) else (some (o132 false)))) else (some (o132 false)))) else (some (o132 false)))) else (some (o132 false))))) (by kernel_rfl) (by unfold impl_lotForm.f; exact lo_))
  · cases e
def o136 (l0 : List S110) (r : Int × Int) : Out Rw := ⟨[.c (.sc (.i .i64 r.1)), .c (.sc (.i .i64 r.2))], [.rows 0 (.e110 l0)]⟩
def Q136 : Mean Rw := fun k a h Z K => match a, h with
  | [.w (.c (.rw 0))], [.rows 0 (.e110 l0)] => (impl_sumLots.f k l0).bind fun r => K (o136 l0 r)
  | _, _ => none
def q136 : Cal Rw := ⟨136, false, Q136⟩
def O136 : List (Cal Rw) := []
def C136_0 : Nat → St Rw → Option (Out Rw) := fun k st => match st with
  | ⟨25, 1, 1, [(4, .w (.c (.sc (.i .i64 x4)))), (5, .w (.c (.sc (.i .i64 x5)))), (8, .w (.c (.rw 0))), (9, .w (.c (.sc (.i .i64 x9)))), (10, .w (.c (.sc (.i .i64 x10))))], [(0, .rows 0 (.e110 l0))]⟩ => (impl_sumLots.l0 k x4 x5 l0 x9 x10).bind fun r => some (o136 l0 r)
  | _ => none
def K136 : List (Cut Rw) := [⟨[false, true, false, true, true], [4, 5, 8, 9, 10], C136_0⟩]
theorem h136_0 : HH Tryz.prog O136 K136 Tryz.f136 [false, true, false, true, true] C136_0 := fun k st out h => by
  unfold C136_0 at h; split at h
  · rename_i x4 x5 x9 x10 l0
    exact Lo.of (b := (if x10 < x9 then (if 0 ≤ x10 then (if x10 < (l0.length : Int) then ((impl_sumLots.l0 k (RowKit.wrap64 (x4 + (rd_T110 l0 x10).f3)) (RowKit.wrap64 (x5 + (rd_T110 l0 x10).f4)) l0 x9 (RowKit.wrap64 (x10 + 1))).bind fun r => some (o136 l0 r)) else none) else none) else (some (o136 l0 (x4, x5))))) (by kernel_rfl) (by rw [impl_sumLots.l0]; exact lo_) _ h
  · cases h
theorem d136 : Sound Tryz.prog q136 := fn_d (O := O136) (cs := K136) nil_ mixed Tryz.func136 (cons_ (fun st => by show C136_0 0 st = none; unfold C136_0; split <;> rfl) nil_) (cons_ h136_0 nil_) fun k a h Z K z e => by
  unfold Q136 at e; split at e
  · rename_i l0
    exact ent e (Lo.of (b := ((impl_sumLots.l0 k 0 0 l0 ((l0.length : Int)) 0).bind fun r => some (o136 l0 r))) (by kernel_rfl) (by unfold impl_sumLots.f; exact lo_))
  · cases e
def o108 (l0 : List S80) (r : Int) : Out Rw := ⟨[.c (.sc (.i .i64 r))], [.rows 0 (.e80 l0)]⟩
def Q108 : Mean Rw := fun k a h Z K => match a, h with
  | [.w (.c (.rw 0)), .w (.c (.sc (.i .i64 a1)))], [.rows 0 (.e80 l0)] => (impl_accountKind.f k l0 a1).bind fun r => K (o108 l0 r)
  | _, _ => none
def q108 : Cal Rw := ⟨108, false, Q108⟩
def O108 : List (Cal Rw) := []
def C108_0 : Nat → St Rw → Option (Out Rw) := fun k st => match st with
  | ⟨20, 1, 1, [(1, .w (.c (.sc (.i .i64 x1)))), (7, .w (.c (.rw 0))), (8, .w (.c (.sc (.i .i64 x8)))), (9, .w (.c (.sc (.i .i64 x9))))], [(0, .rows 0 (.e80 l0))]⟩ => (impl_accountKind.l0 k x1 l0 x8 x9).bind fun r => some (o108 l0 r)
  | _ => none
def K108 : List (Cut Rw) := [⟨[false, true, false, true], [1, 7, 8, 9], C108_0⟩]
theorem h108_0 : HH Tryz.prog O108 K108 Tryz.f108 [false, true, false, true] C108_0 := fun k st out h => by
  unfold C108_0 at h; split at h
  · rename_i x1 x8 x9 l0
    exact Lo.of (b := (if x9 < x8 then (if 0 ≤ x9 then (if x9 < (l0.length : Int) then (if (rd_T80 l0 x9).f0 = x1 then (some (o108 l0 ((rd_T80 l0 x9).f1))) else ((impl_accountKind.l0 k x1 l0 x8 (RowKit.wrap64 (x9 + 1))).bind fun r => some (o108 l0 r))) else none) else none) else (some (o108 l0 0)))) (by kernel_rfl) (by rw [impl_accountKind.l0]; exact lo_) _ h
  · cases h
theorem d108 : Sound Tryz.prog q108 := fn_d (O := O108) (cs := K108) nil_ mixed Tryz.func108 (cons_ (fun st => by show C108_0 0 st = none; unfold C108_0; split <;> rfl) nil_) (cons_ h108_0 nil_) fun k a h Z K z e => by
  unfold Q108 at e; split at e
  · rename_i a1 l0
    exact ent e (Lo.of (b := ((impl_accountKind.l0 k a1 l0 ((l0.length : Int)) 0).bind fun r => some (o108 l0 r))) (by kernel_rfl) (by unfold impl_accountKind.f; exact lo_))
  · cases e
def o110 (l0 : List S84) (r : Int) : Out Rw := ⟨[.c (.sc (.i .i64 r))], [.rows 0 (.e84 l0)]⟩
def Q110 : Mean Rw := fun k a h Z K => match a, h with
  | [.w (.c (.rw 0)), .w (.c (.sc (.i .i64 a1)))], [.rows 0 (.e84 l0)] => (impl_instrKind.f k l0 a1).bind fun r => K (o110 l0 r)
  | _, _ => none
def q110 : Cal Rw := ⟨110, false, Q110⟩
def O110 : List (Cal Rw) := []
def C110_0 : Nat → St Rw → Option (Out Rw) := fun k st => match st with
  | ⟨20, 1, 1, [(1, .w (.c (.sc (.i .i64 x1)))), (7, .w (.c (.rw 0))), (8, .w (.c (.sc (.i .i64 x8)))), (9, .w (.c (.sc (.i .i64 x9))))], [(0, .rows 0 (.e84 l0))]⟩ => (impl_instrKind.l0 k x1 l0 x8 x9).bind fun r => some (o110 l0 r)
  | _ => none
def K110 : List (Cut Rw) := [⟨[false, true, false, true], [1, 7, 8, 9], C110_0⟩]
theorem h110_0 : HH Tryz.prog O110 K110 Tryz.f110 [false, true, false, true] C110_0 := fun k st out h => by
  unfold C110_0 at h; split at h
  · rename_i x1 x8 x9 l0
    exact Lo.of (b := (if x9 < x8 then (if 0 ≤ x9 then (if x9 < (l0.length : Int) then (if (rd_T84 l0 x9).f0 = x1 then (some (o110 l0 ((rd_T84 l0 x9).f1))) else ((impl_instrKind.l0 k x1 l0 x8 (RowKit.wrap64 (x9 + 1))).bind fun r => some (o110 l0 r))) else none) else none) else (some (o110 l0 0)))) (by kernel_rfl) (by rw [impl_instrKind.l0]; exact lo_) _ h
  · cases h
theorem d110 : Sound Tryz.prog q110 := fn_d (O := O110) (cs := K110) nil_ mixed Tryz.func110 (cons_ (fun st => by show C110_0 0 st = none; unfold C110_0; split <;> rfl) nil_) (cons_ h110_0 nil_) fun k a h Z K z e => by
  unfold Q110 at e; split at e
  · rename_i a1 l0
    exact ent e (Lo.of (b := ((impl_instrKind.l0 k a1 l0 ((l0.length : Int)) 0).bind fun r => some (o110 l0 r))) (by kernel_rfl) (by unfold impl_instrKind.f; exact lo_))
  · cases e
def o172 (l0 : List S106) (r : Int × Bool) : Out Rw := ⟨[.c (.sc (.i .i64 r.1)), .c (.sc (.b r.2))], [.rows 0 (.e106 l0)]⟩
def Q172 : Mean Rw := fun k a h Z K => match a, h with
  | [.w (.c (.rw 0)), .w (.c (.sc (.i .i64 a1))), .w (.c (.sc (.i .i64 a2)))], [.rows 0 (.e106 l0)] => (impl_balAt.f k l0 a1 a2).bind fun r => K (o172 l0 r)
  | _, _ => none
def q172 : Cal Rw := ⟨172, false, Q172⟩
def O172 : List (Cal Rw) := [q131]
def C172_0 : Nat → St Rw → Option (Out Rw) := fun k st => match st with
  | ⟨33, 1, 1, [(0, .w (.c (.rw 0))), (1, .w (.c (.sc (.i .i64 x1)))), (2, .w (.c (.sc (.i .i64 x2)))), (11, .w (.c (.rw 0))), (12, .w (.c (.sc (.i .i64 x12)))), (13, .w (.c (.sc (.i .i64 x13))))], [(0, .rows 0 (.e106 l0))]⟩ => (impl_balAt.l0 k l0 x1 x2 l0 x12 x13).bind fun r => some (o172 l0 r)
  | _ => none
def K172 : List (Cut Rw) := [⟨[false, true, false, true], [0, 1, 2, 11, 12, 13], C172_0⟩]
theorem h172_0 : HH Tryz.prog O172 K172 Tryz.f172 [false, true, false, true] C172_0 := fun k st out h => by
  unfold C172_0 at h; split at h
  · rename_i x1 x2 x12 x13 l0
    exact Lo.of (b := (if x13 < x12 then (if 0 ≤ x13 then (if x13 < (l0.length : Int) then ((impl_byBoth.f k (rd_T106 l0 x13).f0 (rd_T106 l0 x13).f1 x1 x2).bind fun r6 => (if r6 ≥ 0 then (some (o172 l0 (x13, decide (r6 = 0)))) else ((impl_balAt.l0 k l0 x1 x2 l0 x12 (RowKit.wrap64 (x13 + 1))).bind fun r => some (o172 l0 r)))) else none) else none) else (some (o172 l0 ((l0.length : Int), false))))) (by kernel_rfl) (by rw [impl_balAt.l0]; exact lo_) _ h
  · cases h
theorem d172 : Sound Tryz.prog q172 := fn_d (O := O172) (cs := K172) (cons_ d131 nil_) mixed Tryz.func172 (cons_ (fun st => by show C172_0 0 st = none; unfold C172_0; split <;> rfl) nil_) (cons_ h172_0 nil_) fun k a h Z K z e => by
  unfold Q172 at e; split at e
  · rename_i a1 a2 l0
    exact ent e (Lo.of (b := ((impl_balAt.l0 k l0 a1 a2 l0 ((l0.length : Int)) 0).bind fun r => some (o172 l0 r))) (by kernel_rfl) (by unfold impl_balAt.f; exact lo_))
  · cases e
def o130 (r : Bool) : Out Rw := ⟨[.c (.sc (.b r))], []⟩
def Q130 : Mean Rw := fun k a h Z K => match a, h with
  | [.w (.c (.sc (.i .i64 a0)))], [] => (impl_AmountOk.f a0).bind fun r => K (o130 r)
  | _, _ => none
def q130 : Cal Rw := ⟨130, false, Q130⟩
def O130 : List (Cal Rw) := [q59]
def K130 : List (Cut Rw) := []
theorem d130 : Sound Tryz.prog q130 := fn_d (O := O130) (cs := K130) (cons_ d59 nil_) mixed Tryz.func130 nil_ nil_ fun k a h Z K z e => by
  unfold Q130 at e; split at e
  · rename_i a0
    exact ent e (Lo.of (b := ((impl_in.f a0 (-1000000000000000) 1000000000000000).bind fun r2 => (some (o130 r2)))) (by kernel_rfl) (by unfold impl_AmountOk.f; exact lo_))
  · cases e
def o176 (r : Bool) : Out Rw := ⟨[.c (.sc (.b r))], []⟩
def Q176 : Mean Rw := fun k a h Z K => match a, h with
  | [.w (.ag [.sc (.i .i64 a0_0), .sc (.i .i64 a0_1), .sc (.i .i64 a0_2)])], [] => (impl_legsForm_1.f a0_0 a0_1 a0_2).bind fun r => K (o176 r)
  | _, _ => none
def q176 : Cal Rw := ⟨176, false, Q176⟩
def O176 : List (Cal Rw) := [q38, q130]
def K176 : List (Cut Rw) := []
theorem d176 : Sound Tryz.prog q176 := fn_d (O := O176) (cs := K176) (cons_ d38 (cons_ d130 nil_)) mixed Tryz.func176 nil_ nil_ fun k a h Z K z e => by
  unfold Q176 at e; split at e
  · rename_i a0_0 a0_1 a0_2
    exact ent e (Lo.of (b := ((impl_isNo.f a0_0).bind fun r4 => (if r4 = true then ((impl_isNo.f a0_1).bind fun r5 => (if r5 = true then ((impl_AmountOk.f a0_2).bind fun r6 => (some (o176 (!decide (r6 = true))))) else (some (o176 true)))) else (some (o176 true))))) (by kernel_rfl) (by unfold impl_legsForm_1.f; exact lo_))
  · cases e
end
end Go.Proofs.YtmfgajbkcnlkcaaGreat.AI
namespace Go.Proofs.YtmfgajbkcnlkcaaGreat.AI
open Go Go.RowKit Go.Proofs.YtmfgajbkcnlkcaaGreatW.PrintWords Go.Proofs.YtmfgajbkcnlkcaaGreat.P
set_option linter.unusedVariables false
set_option linter.all false
set_option maxRecDepth 100000
set_option maxHeartbeats 4000000
noncomputable section
def o79 (l0 : List S110) (r : Bool) : Out Rw := ⟨[.c (.sc (.b r))], [.rows 0 (.e110 l0)]⟩
def Q79 : Mean Rw := fun k a h Z K => match a, h with
  | [.w (.c (.rw 0))], [.rows 0 (.e110 l0)] => (spec_LotsOk.f k l0).bind fun r => K (o79 l0 r)
  | _, _ => none
def q79 : Cal Rw := ⟨79, false, Q79⟩
def O79 : List (Cal Rw) := [q124, q125, q122]
def C79_0 : Nat → St Rw → Option (Out Rw) := fun k st => match st with
  | ⟨77, 1, 1, [(0, .w (.c (.rw 0))), (3, .w (.c (.sc (.i .i64 x3)))), (4, .w (.c (.sc (.i .i64 x4)))), (5, .w (.c (.sc (.i .i64 x5))))], [(0, .rows 0 (.e110 l0))]⟩ => (spec_LotsOk.l0 k l0 x3 x4 x5).bind fun r => some (o79 l0 r)
  | _ => none
def C79_1 : Nat → St Rw → Option (Out Rw) := fun k st => match st with
  | ⟨77, 1, 2, [(0, .w (.c (.rw 0))), (3, .w (.c (.sc (.i .i64 x3)))), (4, .w (.c (.sc (.i .i64 x4)))), (5, .w (.c (.sc (.i .i64 x5)))), (6, .pt 1 0), (36, .w (.c (.sc (.b x36))))], [(0, .rows 0 (.e110 l0)), (1, .box 110 [.sc (.i .i64 b1_0), .sc (.i .i64 b1_1), .sc (.i .i64 b1_2), .sc (.i .i64 b1_3), .sc (.i .i64 b1_4)])]⟩ => (spec_LotsOk.j1 k l0 x3 x4 x5 x36 b1_0 b1_1 b1_2 b1_3 b1_4).bind fun r => some (o79 l0 r)
  | _ => none
def C79_2 : Nat → St Rw → Option (Out Rw) := fun k st => match st with
  | ⟨77, 1, 2, [(0, .w (.c (.rw 0))), (3, .w (.c (.sc (.i .i64 x3)))), (4, .w (.c (.sc (.i .i64 x4)))), (5, .w (.c (.sc (.i .i64 x5)))), (6, .pt 1 0), (60, .w (.c (.sc (.b x60))))], [(0, .rows 0 (.e110 l0)), (1, .box 110 [.sc (.i .i64 b1_0), .sc (.i .i64 b1_1), .sc (.i .i64 b1_2), .sc (.i .i64 b1_3), .sc (.i .i64 b1_4)])]⟩ => (spec_LotsOk.j2 k l0 x3 x4 x5 x60 b1_0 b1_1 b1_2 b1_3 b1_4).bind fun r => some (o79 l0 r)
  | _ => none
def C79_3 : Nat → St Rw → Option (Out Rw) := fun k st => match st with
  | ⟨77, 1, 2, [(0, .w (.c (.rw 0))), (3, .w (.c (.sc (.i .i64 x3)))), (4, .w (.c (.sc (.i .i64 x4)))), (5, .w (.c (.sc (.i .i64 x5)))), (6, .pt 1 0)], [(0, .rows 0 (.e110 l0)), (1, .box 110 [.sc (.i .i64 b1_0), .sc (.i .i64 b1_1), .sc (.i .i64 b1_2), .sc (.i .i64 b1_3), .sc (.i .i64 b1_4)])]⟩ => (spec_LotsOk.j3 k l0 x3 x4 x5 b1_0 b1_1 b1_2 b1_3 b1_4).bind fun r => some (o79 l0 r)
  | _ => none
def K79 : List (Cut Rw) := [⟨[false, true, false, true, true, true], [0, 3, 4, 5], C79_0⟩, ⟨[true, false, true, false, false, true, false, false, true, false, true, true, true], [0, 3, 4, 5, 6, 36], C79_1⟩, ⟨[true, false, true, true, false, false, true, false, false, true, false, true, true, true], [0, 3, 4, 5, 6, 60], C79_2⟩, ⟨[true, true, true, false, false, true, false, false, true, false, true, true, true], [0, 3, 4, 5, 6], C79_3⟩]
theorem h79_0 : HH Tryz.prog O79 K79 Tryz.f79 [false, true, false, true, true, true] C79_0 := fun k st out h => by
  unfold C79_0 at h; split at h
  · rename_i x3 x4 x5 l0
    exact Lo.of (b := (if x5 < (l0.length : Int) then (if 0 ≤ x5 then (if x5 < (l0.length : Int) then ((spec_l5Right.f (rd_T110 l0 x5).f0 (rd_T110 l0 x5).f1 (rd_T110 l0 x5).f2 (rd_T110 l0 x5).f3 (rd_T110 l0 x5).f4).bind fun r5 => (if r5 = true then (if x5 > 0 then (if 0 ≤ RowKit.wrap64 (x5 - 1) then (if RowKit.wrap64 (x5 - 1) < (l0.length : Int) then ((spec_l5Before.f (rd_T110 l0 (RowKit.wrap64 (x5 - 1))).f0 (rd_T110 l0 (RowKit.wrap64 (x5 - 1))).f1 (rd_T110 l0 (RowKit.wrap64 (x5 - 1))).f2 (rd_T110 l0 (RowKit.wrap64 (x5 - 1))).f3 (rd_T110 l0 (RowKit.wrap64 (x5 - 1))).f4 (rd_T110 l0 x5).f0 (rd_T110 l0 x5).f1 (rd_T110 l0 x5).f2 (rd_T110 l0 x5).f3 (rd_T110 l0 x5).f4).bind fun r6 => ((spec_LotsOk.j1 k l0 x3 x4 x5 (!decide (r6 = true)) ((rd_T110 l0 x5).f0) ((rd_T110 l0 x5).f1) ((rd_T110 l0 x5).f2) ((rd_T110 l0 x5).f3) ((rd_T110 l0 x5).f4)).bind fun r => some (o79 l0 r))) else none) else none) else ((spec_LotsOk.j1 k l0 x3 x4 x5 false ((rd_T110 l0 x5).f0) ((rd_T110 l0 x5).f1) ((rd_T110 l0 x5).f2) ((rd_T110 l0 x5).f3) ((rd_T110 l0 x5).f4)).bind fun r => some (o79 l0 r))) else ((spec_LotsOk.j1 k l0 x3 x4 x5 true ((rd_T110 l0 x5).f0) ((rd_T110 l0 x5).f1) ((rd_T110 l0 x5).f2) ((rd_T110 l0 x5).f3) ((rd_T110 l0 x5).f4)).bind fun r => some (o79 l0 r)))) else none) else none) else (some (o79 l0 true)))) (by kernel_rfl) (by rw [spec_LotsOk.l0]; exact lo_) _ h
  · cases h
theorem h79_1 : HH Tryz.prog O79 K79 Tryz.f79 [true, false, true, false, false, true, false, false, true, false, true, true, true] C79_1 := fun k st out h => by
  unfold C79_1 at h; split at h
  · rename_i x3 x4 x5 x36 l0 b1_0 b1_1 b1_2 b1_3 b1_4
    exact Lo.of (b := (if x36 = true then (some (o79 l0 false)) else (if x5 = 0 then ((spec_LotsOk.j2 k l0 x3 x4 x5 true b1_0 b1_1 b1_2 b1_3 b1_4).bind fun r => some (o79 l0 r)) else (if 0 ≤ RowKit.wrap64 (x5 - 1) then (if RowKit.wrap64 (x5 - 1) < (l0.length : Int) then (if b1_0 = (rd_T110 l0 (RowKit.wrap64 (x5 - 1))).f0 then (if 0 ≤ RowKit.wrap64 (x5 - 1) then (if RowKit.wrap64 (x5 - 1) < (l0.length : Int) then ((spec_LotsOk.j2 k l0 x3 x4 x5 (!decide (b1_1 = (rd_T110 l0 (RowKit.wrap64 (x5 - 1))).f1)) b1_0 b1_1 b1_2 b1_3 b1_4).bind fun r => some (o79 l0 r)) else none) else none) else ((spec_LotsOk.j2 k l0 x3 x4 x5 true b1_0 b1_1 b1_2 b1_3 b1_4).bind fun r => some (o79 l0 r))) else none) else none)))) (by kernel_rfl) (by rw [spec_LotsOk.j1]; exact lo_) _ h
  · cases h
theorem h79_2 : HH Tryz.prog O79 K79 Tryz.f79 [true, false, true, true, false, false, true, false, false, true, false, true, true, true] C79_2 := fun k st out h => by
  unfold C79_2 at h; split at h
  · rename_i x3 x4 x5 x60 l0 b1_0 b1_1 b1_2 b1_3 b1_4
    exact Lo.of (b := (if x60 = true then ((spec_LotsOk.j3 k l0 0 0 x5 b1_0 b1_1 b1_2 b1_3 b1_4).bind fun r => some (o79 l0 r)) else ((spec_LotsOk.j3 k l0 x3 x4 x5 b1_0 b1_1 b1_2 b1_3 b1_4).bind fun r => some (o79 l0 r)))) (by kernel_rfl) (by rw [spec_LotsOk.j2]; exact lo_) _ h
  · cases h
theorem h79_3 : HH Tryz.prog O79 K79 Tryz.f79 [true, true, true, false, false, true, false, false, true, false, true, true, true] C79_3 := fun k st out h => by
  unfold C79_3 at h; split at h
  · rename_i x3 x4 x5 l0 b1_0 b1_1 b1_2 b1_3 b1_4
    exact Lo.of (b := ((spec_AmountOk.f (RowKit.wrap64 (x3 + b1_3))).bind fun r10 => (if r10 = true then ((spec_AmountOk.f (RowKit.wrap64 (x4 + b1_4))).bind fun r11 => (if r11 = true then ((spec_LotsOk.l0 k l0 (RowKit.wrap64 (x3 + b1_3)) (RowKit.wrap64 (x4 + b1_4)) (RowKit.wrap64 (x5 + 1))).bind fun r => some (o79 l0 r)) else (some (o79 l0 false)))) else (some (o79 l0 false))))) (by kernel_rfl) (by rw [spec_LotsOk.j3]; exact lo_) _ h
  · cases h
theorem d79 : Sound Tryz.prog q79 := fn_d (O := O79) (cs := K79) (cons_ d124 (cons_ d125 (cons_ d122 nil_))) mixed Tryz.func79 (cons_ (fun st => by show C79_0 0 st = none; unfold C79_0; split <;> rfl) (cons_ (fun st => by show C79_1 0 st = none; unfold C79_1; split <;> rfl) (cons_ (fun st => by show C79_2 0 st = none; unfold C79_2; split <;> rfl) (cons_ (fun st => by show C79_3 0 st = none; unfold C79_3; split <;> rfl) nil_)))) (cons_ h79_0 (cons_ h79_1 (cons_ h79_2 (cons_ h79_3 nil_)))) fun k a h Z K z e => by
  unfold Q79 at e; split at e
  · rename_i l0
    exact ent e (Lo.of (b := (if (l0.length : Int) > 120 then (some (o79 l0 false)) else ((spec_LotsOk.l0 k l0 0 0 0).bind fun r => some (o79 l0 r)))) (by kernel_rfl) (by unfold spec_LotsOk.f; exact lo_))
  · cases e
def o80 (l0 : List S60) (r : Bool) : Out Rw := ⟨[.c (.sc (.b r))], [.rows 0 (.e60 l0)]⟩
def Q80 : Mean Rw := fun k a h Z K => match a, h with
  | [.w (.c (.rw 0))], [.rows 0 (.e60 l0)] => (spec_TradesOk.f k l0).bind fun r => K (o80 l0 r)
  | _, _ => none
def q80 : Cal Rw := ⟨80, false, Q80⟩
def O80 : List (Cal Rw) := [q29, q66, q56]
def C80_0 : Nat → St Rw → Option (Out Rw) := fun k st => match st with
  | ⟨86, 1, 1, [(0, .w (.c (.rw 0))), (3, .w (.c (.sc (.i .i64 x3))))], [(0, .rows 0 (.e60 l0))]⟩ => (spec_TradesOk.l0 k l0 x3).bind fun r => some (o80 l0 r)
  | _ => none
def K80 : List (Cut Rw) := [⟨[false, true, false, true, true], [0, 3], C80_0⟩]
theorem h80_0 : HH Tryz.prog O80 K80 Tryz.f80 [false, true, false, true, true] C80_0 := fun k st out h => by
  unfold C80_0 at h; split at h
  · rename_i x3 l0
    exact Lo.of (b := (if x3 < (l0.length : Int) then (if 0 ≤ x3 then (if x3 < (l0.length : Int) then ((spec_l3No.f (rd_T60 l0 x3).f0).bind fun r3 => (if r3 = true then ((spec_l3No.f (rd_T60 l0 x3).f1).bind fun r4 => (if r4 = true then ((spec_l3No.f (rd_T60 l0 x3).f2).bind fun r5 => (if r5 = true then ((spec_l3No.f (rd_T60 l0 x3).f3).bind fun r6 => (if r6 = true then ((spec_l3No.f (rd_T60 l0 x3).f5).bind fun r7 => (if r7 = true then (if (rd_T60 l0 x3).f1 = (rd_T60 l0 x3).f2 then (some (o80 l0 false)) else ((spec_l1Some.f (rd_T60 l0 x3).f4 1).bind fun r8 => (if r8 = true then ((spec_l1Some.f (rd_T60 l0 x3).f6 0).bind fun r9 => (if r9 = true then ((spec_l1In.f (rd_T60 l0 x3).f7 1 3).bind fun r10 => (if r10 = true then (if x3 > 0 then (if 0 ≤ RowKit.wrap64 (x3 - 1) then (if RowKit.wrap64 (x3 - 1) < (l0.length : Int) then (if (rd_T60 l0 (RowKit.wrap64 (x3 - 1))).f0 ≥ (rd_T60 l0 x3).f0 then (some (o80 l0 false)) else ((spec_TradesOk.l0 k l0 (RowKit.wrap64 (x3 + 1))).bind fun r => some (o80 l0 r))) else none) else none) else ((spec_TradesOk.l0 k l0 (RowKit.wrap64 (x3 + 1))).bind fun r => some (o80 l0 r))) else (some (o80 l0 false)))) else (some (o80 l0 false)))) else (some (o80 l0 false))))) else (some (o80 l0 false)))) else (some (o80 l0 false)))) else (some (o80 l0 false)))) else (some (o80 l0 false)))) else (some (o80 l0 false)))) else none) else none) else (some (o80 l0 true)))) (by kernel_rfl) (by rw [spec_TradesOk.l0]; exact lo_) _ h
  · cases h
theorem d80 : Sound Tryz.prog q80 := fn_d (O := O80) (cs := K80) (cons_ d29 (cons_ d66 (cons_ d56 nil_))) mixed Tryz.func80 (cons_ (fun st => by show C80_0 0 st = none; unfold C80_0; split <;> rfl) nil_) (cons_ h80_0 nil_) fun k a h Z K z e => by
  unfold Q80 at e; split at e
  · rename_i l0
    exact ent e (Lo.of (b := (if (l0.length : Int) > 30 then (some (o80 l0 false)) else ((spec_TradesOk.l0 k l0 0).bind fun r => some (o80 l0 r)))) (by kernel_rfl) (by unfold spec_TradesOk.f; exact lo_))
  · cases e
def o57 (l0 : List S80) (r : Int) : Out Rw := ⟨[.c (.sc (.i .i64 r))], [.rows 0 (.e80 l0)]⟩
def Q57 : Mean Rw := fun k a h Z K => match a, h with
  | [.w (.c (.rw 0)), .w (.c (.sc (.i .i64 a1)))], [.rows 0 (.e80 l0)] => (spec_AccountKind.f k l0 a1).bind fun r => K (o57 l0 r)
  | _, _ => none
def q57 : Cal Rw := ⟨57, false, Q57⟩
def O57 : List (Cal Rw) := [q76]
def C57_0 : Nat → St Rw → Option (Out Rw) := fun k st => match st with
  | ⟨28, 1, 1, [(0, .w (.c (.rw 0))), (1, .w (.c (.sc (.i .i64 x1)))), (5, .w (.c (.sc (.i .i64 x5))))], [(0, .rows 0 (.e80 l0))]⟩ => (spec_AccountKind.l0 k l0 x1 x5).bind fun r => some (o57 l0 r)
  | _ => none
def C57_1 : Nat → St Rw → Option (Out Rw) := fun k st => match st with
  | ⟨28, 1, 1, [(0, .w (.c (.rw 0))), (1, .w (.c (.sc (.i .i64 x1)))), (5, .w (.c (.sc (.i .i64 x5)))), (13, .w (.c (.sc (.b x13))))], [(0, .rows 0 (.e80 l0))]⟩ => (spec_AccountKind.j1 k l0 x1 x5 x13).bind fun r => some (o57 l0 r)
  | _ => none
def K57 : List (Cut Rw) := [⟨[false, true, false, true], [0, 1, 5], C57_0⟩, ⟨[true, false, false, false, true, false, true], [0, 1, 5, 13], C57_1⟩]
theorem h57_0 : HH Tryz.prog O57 K57 Tryz.f57 [false, true, false, true] C57_0 := fun k st out h => by
  unfold C57_0 at h; split at h
  · rename_i x1 x5 l0
    exact Lo.of (b := (if x5 < (l0.length : Int) then ((spec_AccountsOk.f k l0).bind fun r4 => ((spec_AccountKind.j1 k l0 x1 x5 r4).bind fun r => some (o57 l0 r))) else ((spec_AccountKind.j1 k l0 x1 x5 false).bind fun r => some (o57 l0 r)))) (by kernel_rfl) (by rw [spec_AccountKind.l0]; exact lo_) _ h
  · cases h
theorem h57_1 : HH Tryz.prog O57 K57 Tryz.f57 [true, false, false, false, true, false, true] C57_1 := fun k st out h => by
  unfold C57_1 at h; split at h
  · rename_i x1 x5 x13 l0
    exact Lo.of (b := (if x13 = true then (if 0 ≤ x5 then (if x5 < (l0.length : Int) then (if (rd_T80 l0 x5).f0 = x1 then (if 0 ≤ x5 then (if x5 < (l0.length : Int) then (some (o57 l0 ((rd_T80 l0 x5).f1))) else none) else none) else ((spec_AccountKind.l0 k l0 x1 (RowKit.wrap64 (x5 + 1))).bind fun r => some (o57 l0 r))) else none) else none) else (some (o57 l0 0)))) (by kernel_rfl) (by rw [spec_AccountKind.j1]; exact lo_) _ h
  · cases h
theorem d57 : Sound Tryz.prog q57 := fn_d (O := O57) (cs := K57) (cons_ d76 nil_) mixed Tryz.func57 (cons_ (fun st => by show C57_0 0 st = none; unfold C57_0; split <;> rfl) (cons_ (fun st => by show C57_1 0 st = none; unfold C57_1; split <;> rfl) nil_)) (cons_ h57_0 (cons_ h57_1 nil_)) fun k a h Z K z e => by
  unfold Q57 at e; split at e
  · rename_i a1 l0
    exact ent e (Lo.of (b := ((spec_AccountKind.l0 k l0 a1 0).bind fun r => some (o57 l0 r))) (by kernel_rfl) (by unfold spec_AccountKind.f; exact lo_))
  · cases e
def o62 (l0 : List S84) (r : Int) : Out Rw := ⟨[.c (.sc (.i .i64 r))], [.rows 0 (.e84 l0)]⟩
def Q62 : Mean Rw := fun k a h Z K => match a, h with
  | [.w (.c (.rw 0)), .w (.c (.sc (.i .i64 a1)))], [.rows 0 (.e84 l0)] => (spec_InstrKind.f k l0 a1).bind fun r => K (o62 l0 r)
  | _, _ => none
def q62 : Cal Rw := ⟨62, false, Q62⟩
def O62 : List (Cal Rw) := [q77]
def C62_0 : Nat → St Rw → Option (Out Rw) := fun k st => match st with
  | ⟨28, 1, 1, [(0, .w (.c (.rw 0))), (1, .w (.c (.sc (.i .i64 x1)))), (5, .w (.c (.sc (.i .i64 x5))))], [(0, .rows 0 (.e84 l0))]⟩ => (spec_InstrKind.l0 k l0 x1 x5).bind fun r => some (o62 l0 r)
  | _ => none
def C62_1 : Nat → St Rw → Option (Out Rw) := fun k st => match st with
  | ⟨28, 1, 1, [(0, .w (.c (.rw 0))), (1, .w (.c (.sc (.i .i64 x1)))), (5, .w (.c (.sc (.i .i64 x5)))), (13, .w (.c (.sc (.b x13))))], [(0, .rows 0 (.e84 l0))]⟩ => (spec_InstrKind.j1 k l0 x1 x5 x13).bind fun r => some (o62 l0 r)
  | _ => none
def K62 : List (Cut Rw) := [⟨[false, true, false, true], [0, 1, 5], C62_0⟩, ⟨[true, false, false, false, true, false, true], [0, 1, 5, 13], C62_1⟩]
theorem h62_0 : HH Tryz.prog O62 K62 Tryz.f62 [false, true, false, true] C62_0 := fun k st out h => by
  unfold C62_0 at h; split at h
  · rename_i x1 x5 l0
    exact Lo.of (b := (if x5 < (l0.length : Int) then ((spec_InstrsOk.f k l0).bind fun r4 => ((spec_InstrKind.j1 k l0 x1 x5 r4).bind fun r => some (o62 l0 r))) else ((spec_InstrKind.j1 k l0 x1 x5 false).bind fun r => some (o62 l0 r)))) (by kernel_rfl) (by rw [spec_InstrKind.l0]; exact lo_) _ h
  · cases h
theorem h62_1 : HH Tryz.prog O62 K62 Tryz.f62 [true, false, false, false, true, false, true] C62_1 := fun k st out h => by
  unfold C62_1 at h; split at h
  · rename_i x1 x5 x13 l0
    exact Lo.of (b := (if x13 = true then (if 0 ≤ x5 then (if x5 < (l0.length : Int) then (if (rd_T84 l0 x5).f0 = x1 then (if 0 ≤ x5 then (if x5 < (l0.length : Int) then (some (o62 l0 ((rd_T84 l0 x5).f1))) else none) else none) else ((spec_InstrKind.l0 k l0 x1 (RowKit.wrap64 (x5 + 1))).bind fun r => some (o62 l0 r))) else none) else none) else (some (o62 l0 0)))) (by kernel_rfl) (by rw [spec_InstrKind.j1]; exact lo_) _ h
  · cases h
theorem d62 : Sound Tryz.prog q62 := fn_d (O := O62) (cs := K62) (cons_ d77 nil_) mixed Tryz.func62 (cons_ (fun st => by show C62_0 0 st = none; unfold C62_0; split <;> rfl) (cons_ (fun st => by show C62_1 0 st = none; unfold C62_1; split <;> rfl) nil_)) (cons_ h62_0 (cons_ h62_1 nil_)) fun k a h Z K z e => by
  unfold Q62 at e; split at e
  · rename_i a1 l0
    exact ent e (Lo.of (b := ((spec_InstrKind.l0 k l0 a1 0).bind fun r => some (o62 l0 r))) (by kernel_rfl) (by unfold spec_InstrKind.f; exact lo_))
  · cases e
def o167 (r : Int × Bool) : Out Rw := ⟨[.c (.sc (.i .i64 r.1)), .c (.sc (.b r.2))], []⟩
def Q167 : Mean Rw := fun k a h Z K => match a, h with
  | [.w (.c (.sc (.i .i64 a0))), .w (.c (.sc (.b a1)))], [] => (spec_l1Told.f a0 a1).bind fun r => K (o167 r)
  | _, _ => none
def q167 : Cal Rw := ⟨167, false, Q167⟩
def O167 : List (Cal Rw) := [q122]
def K167 : List (Cut Rw) := []
theorem d167 : Sound Tryz.prog q167 := fn_d (O := O167) (cs := K167) (cons_ d122 nil_) mixed Tryz.func167 nil_ nil_ fun k a h Z K z e => by
  unfold Q167 at e; split at e
  · rename_i a0 a1
    exact ent e (Lo.of (b := (if a1 = true then ((spec_AmountOk.f a0).bind fun r3 => (if r3 = true then (some (o167 (a0, true))) else (some (o167 (0, false))))) else (some (o167 (0, false))))) (by kernel_rfl) (by unfold spec_l1Told.f; exact lo_))
  · cases e
def o126 (l0 : List S106) (r : Int × Bool) : Out Rw := ⟨[.c (.sc (.i .i64 r.1)), .c (.sc (.b r.2))], [.rows 0 (.e106 l0)]⟩
def Q126 : Mean Rw := fun k a h Z K => match a, h with
  | [.w (.c (.rw 0)), .w (.c (.sc (.i .i64 a1)))], [.rows 0 (.e106 l0)] => (spec_BalsSum.f k l0 a1).bind fun r => K (o126 l0 r)
  | _, _ => none
def q126 : Cal Rw := ⟨126, false, Q126⟩
def O126 : List (Cal Rw) := [q78, q167]
def C126_0 : Nat → St Rw → Option (Out Rw) := fun k st => match st with
  | ⟨38, 1, 1, [(0, .w (.c (.rw 0))), (1, .w (.c (.sc (.i .i64 x1)))), (6, .w (.c (.sc (.i .i64 x6)))), (7, .w (.c (.sc (.i .i64 x7))))], [(0, .rows 0 (.e106 l0))]⟩ => (spec_BalsSum.l0 k l0 x1 x6 x7).bind fun r => some (o126 l0 r)
  | _ => none
def C126_1 : Nat → St Rw → Option (Out Rw) := fun k st => match st with
  | ⟨38, 1, 1, [(0, .w (.c (.rw 0))), (1, .w (.c (.sc (.i .i64 x1)))), (6, .w (.c (.sc (.i .i64 x6)))), (7, .w (.c (.sc (.i .i64 x7)))), (15, .w (.c (.sc (.b x15))))], [(0, .rows 0 (.e106 l0))]⟩ => (spec_BalsSum.j1 k l0 x1 x6 x7 x15).bind fun r => some (o126 l0 r)
  | _ => none
def K126 : List (Cut Rw) := [⟨[false, true, false, true, true], [0, 1, 6, 7], C126_0⟩, ⟨[true, false, false, false, true, false, true, true], [0, 1, 6, 7, 15], C126_1⟩]
theorem h126_0 : HH Tryz.prog O126 K126 Tryz.f126 [false, true, false, true, true] C126_0 := fun k st out h => by
  unfold C126_0 at h; split at h
  · rename_i x1 x6 x7 l0
    exact Lo.of (b := (if x7 < (l0.length : Int) then ((spec_BalsOk.f k l0).bind fun r5 => ((spec_BalsSum.j1 k l0 x1 x6 x7 r5).bind fun r => some (o126 l0 r))) else ((spec_BalsSum.j1 k l0 x1 x6 x7 false).bind fun r => some (o126 l0 r)))) (by kernel_rfl) (by rw [spec_BalsSum.l0]; exact lo_) _ h
  · cases h
theorem h126_1 : HH Tryz.prog O126 K126 Tryz.f126 [true, false, false, false, true, false, true, true] C126_1 := fun k st out h => by
  unfold C126_1 at h; split at h
  · rename_i x1 x6 x7 x15 l0
    exact Lo.of (b := (if x15 = true then (if 0 ≤ x7 then (if x7 < (l0.length : Int) then (if (rd_T106 l0 x7).f1 = x1 then (if 0 ≤ x7 then (if x7 < (l0.length : Int) then ((spec_BalsSum.l0 k l0 x1 (RowKit.wrap64 (x6 + (rd_T106 l0 x7).f2)) (RowKit.wrap64 (x7 + 1))).bind fun r => some (o126 l0 r)) else none) else none) else ((spec_BalsSum.l0 k l0 x1 x6 (RowKit.wrap64 (x7 + 1))).bind fun r => some (o126 l0 r))) else none) else none) else ((spec_BalsOk.f k l0).bind fun r6 => ((spec_l1Told.f x6 r6).bind fun r7 => (some (o126 l0 (r7.1, r7.2))))))) (by kernel_rfl) (by rw [spec_BalsSum.j1]; exact lo_) _ h
  · cases h
theorem d126 : Sound Tryz.prog q126 := fn_d (O := O126) (cs := K126) (cons_ d78 (cons_ d167 nil_)) mixed Tryz.func126 (cons_ (fun st => by show C126_0 0 st = none; unfold C126_0; split <;> rfl) (cons_ (fun st => by show C126_1 0 st = none; unfold C126_1; split <;> rfl) nil_)) (cons_ h126_0 (cons_ h126_1 nil_)) fun k a h Z K z e => by
  unfold Q126 at e; split at e
  · rename_i a1 l0
    exact ent e (Lo.of (b := ((spec_BalsSum.l0 k l0 a1 0 0).bind fun r => some (o126 l0 r))) (by kernel_rfl) (by unfold spec_BalsSum.f; exact lo_))
  · cases e
def o81 (l0_0 : List S80) (l0_1 : List S84) (l0_2 : List S106) (l0_3 : List S110) (l0_4 : List S60) (r : Bool) : Out Rw := ⟨[.c (.sc (.b r))], [.rows 0 (.e80 l0_0), .rows 0 (.e84 l0_1), .rows 0 (.e106 l0_2), .rows 0 (.e110 l0_3), .rows 0 (.e60 l0_4)]⟩
def Q81 : Mean Rw := fun k a h Z K => match a, h with
  | [.w (.ag [.rw 0, .rw 1, .rw 2, .rw 3, .rw 4, .sc (.i .i64 a0_5)])], [.rows 0 (.e80 l0_0), .rows 0 (.e84 l0_1), .rows 0 (.e106 l0_2), .rows 0 (.e110 l0_3), .rows 0 (.e60 l0_4)] => (spec_l6Bals.f k l0_0 l0_1 l0_2 l0_3 l0_4 a0_5).bind fun r => K (o81 l0_0 l0_1 l0_2 l0_3 l0_4 r)
  | _, _ => none
def q81 : Cal Rw := ⟨81, false, Q81⟩
def O81 : List (Cal Rw) := [q57, q62, q126]
def C81_0 : Nat → St Rw → Option (Out Rw) := fun k st => match st with
  | ⟨58, 5, 6, [(1, .pt 5 0), (3, .w (.c (.sc (.i .i64 x3))))], [(0, .rows 0 (.e80 l0_0)), (1, .rows 0 (.e84 l0_1)), (2, .rows 0 (.e106 l0_2)), (3, .rows 0 (.e110 l0_3)), (4, .rows 0 (.e60 l0_4)), (5, .box 36 [.rw 0, .rw 1, .rw 2, .rw 3, .rw 4, .sc (.i .i64 b5_5)])]⟩ => (spec_l6Bals.l0 k x3 l0_0 l0_1 l0_2 l0_3 l0_4 b5_5).bind fun r => some (o81 l0_0 l0_1 l0_2 l0_3 l0_4 r)
  | _ => none
def C81_1 : Nat → St Rw → Option (Out Rw) := fun k st => match st with
  | ⟨58, 5, 7, [(1, .pt 5 0), (3, .w (.c (.sc (.i .i64 x3)))), (4, .pt 6 0), (43, .w (.c (.sc (.b x43))))], [(0, .rows 0 (.e80 l0_0)), (1, .rows 0 (.e84 l0_1)), (2, .rows 0 (.e106 l0_2)), (3, .rows 0 (.e110 l0_3)), (4, .rows 0 (.e60 l0_4)), (5, .box 36 [.rw 0, .rw 1, .rw 2, .rw 3, .rw 4, .sc (.i .i64 b5_5)]), (6, .box 106 [.sc (.i .i64 b6_0), .sc (.i .i64 b6_1), .sc (.i .i64 b6_2)])]⟩ => (spec_l6Bals.j1 k x3 x43 l0_0 l0_1 l0_2 l0_3 l0_4 b5_5 b6_0 b6_1 b6_2).bind fun r => some (o81 l0_0 l0_1 l0_2 l0_3 l0_4 r)
  | _ => none
def K81 : List (Cut Rw) := [⟨[false, true, false, true], [1, 3], C81_0⟩, ⟨[true, false, true, true, false, false, true, false, false, true, false, true], [1, 3, 4, 43], C81_1⟩]
theorem h81_0 : HH Tryz.prog O81 K81 Tryz.f81 [false, true, false, true] C81_0 := fun k st out h => by
  unfold C81_0 at h; split at h
  · rename_i x3 l0_0 l0_1 l0_2 l0_3 l0_4 b5_5
    exact Lo.of (b := (if x3 < (l0_2.length : Int) then (if 0 ≤ x3 then (if x3 < (l0_2.length : Int) then ((spec_AccountKind.f k l0_0 (rd_T106 l0_2 x3).f0).bind fun r8 => (if r8 = 0 then ((spec_l6Bals.j1 k x3 true l0_0 l0_1 l0_2 l0_3 l0_4 b5_5 ((rd_T106 l0_2 x3).f0) ((rd_T106 l0_2 x3).f1) ((rd_T106 l0_2 x3).f2)).bind fun r => some (o81 l0_0 l0_1 l0_2 l0_3 l0_4 r)) else ((spec_InstrKind.f k l0_1 (rd_T106 l0_2 x3).f1).bind fun r9 => (if r9 = 0 then ((spec_l6Bals.j1 k x3 true l0_0 l0_1 l0_2 l0_3 l0_4 b5_5 ((rd_T106 l0_2 x3).f0) ((rd_T106 l0_2 x3).f1) ((rd_T106 l0_2 x3).f2)).bind fun r => some (o81 l0_0 l0_1 l0_2 l0_3 l0_4 r)) else (if r8 = 1 then ((spec_l6Bals.j1 k x3 (decide ((rd_T106 l0_2 x3).f2 < 0)) l0_0 l0_1 l0_2 l0_3 l0_4 b5_5 ((rd_T106 l0_2 x3).f0) ((rd_T106 l0_2 x3).f1) ((rd_T106 l0_2 x3).f2)).bind fun r => some (o81 l0_0 l0_1 l0_2 l0_3 l0_4 r)) else ((spec_l6Bals.j1 k x3 false l0_0 l0_1 l0_2 l0_3 l0_4 b5_5 ((rd_T106 l0_2 x3).f0) ((rd_T106 l0_2 x3).f1) ((rd_T106 l0_2 x3).f2)).bind fun r => some (o81 l0_0 l0_1 l0_2 l0_3 l0_4 r))))))) else none) else none) else (some (o81 l0_0 l0_1 l0_2 l0_3 l0_4 true)))) (by kernel_rfl) (by rw [spec_l6Bals.l0]; exact lo_) _ h
  · cases h
theorem h81_1 : HH Tryz.prog O81 K81 Tryz.f81 [true, false, true, true, false, false, true, false, false, true, false, true] C81_1 := fun k st out h => by
  unfold C81_1 at h; split at h
  · rename_i x3 x43 l0_0 l0_1 l0_2 l0_3 l0_4 b5_5 b6_0 b6_1 b6_2
    exact Lo.of (b := (if x43 = true then (some (o81 l0_0 l0_1 l0_2 l0_3 l0_4 false)) else ((spec_BalsSum.f k l0_2 b6_1).bind fun r12 => (if r12.2 = true then (if r12.1 = 0 then ((spec_l6Bals.l0 k (RowKit.wrap64 (x3 + 1)) l0_0 l0_1 l0_2 l0_3 l0_4 b5_5).bind fun r => some (o81 l0_0 l0_1 l0_2 l0_3 l0_4 r)) else (some (o81 l0_0 l0_1 l0_2 l0_3 l0_4 false))) else (some (o81 l0_0 l0_1 l0_2 l0_3 l0_4 false)))))) (by kernel_rfl) (by rw [spec_l6Bals.j1]; exact lo_) _ h
  · cases h
theorem d81 : Sound Tryz.prog q81 := fn_d (O := O81) (cs := K81) (cons_ d57 (cons_ d62 (cons_ d126 nil_))) mixed Tryz.func81 (cons_ (fun st => by show C81_0 0 st = none; unfold C81_0; split <;> rfl) (cons_ (fun st => by show C81_1 0 st = none; unfold C81_1; split <;> rfl) nil_)) (cons_ h81_0 (cons_ h81_1 nil_)) fun k a h Z K z e => by
  unfold Q81 at e; split at e
  · rename_i a0_5 l0_0 l0_1 l0_2 l0_3 l0_4
    exact ent e (Lo.of (b := ((spec_l6Bals.l0 k 0 l0_0 l0_1 l0_2 l0_3 l0_4 a0_5).bind fun r => some (o81 l0_0 l0_1 l0_2 l0_3 l0_4 r))) (by kernel_rfl) (by unfold spec_l6Bals.f; exact lo_))
  · cases e
def o127 (l0 : List S110) (r : (List (S110)) × (List (S110))) : Out Rw := ⟨[.c (.rw 1), .c (.rw 2)], [.rows 0 (.e110 l0), .rows 2 (.e110 r.1), .rows 2 (.e110 r.2)]⟩
def Q127 : Mean Rw := fun k a h Z K => match a, h with
  | [.w (.c (.rw 0)), .w (.c (.sc (.i .i64 a1))), .w (.c (.sc (.i .i64 a2)))], [.rows 0 (.e110 l0)] => (spec_l5Split.f k l0 a1 a2).bind fun r => K (o127 l0 r)
  | _, _ => none
def q127 : Cal Rw := ⟨127, false, Q127⟩
def O127 : List (Cal Rw) := []
def C127_0 : Nat → St Rw → Option (Out Rw) := fun k st => match st with
  | ⟨51, 1, 3, [(0, .w (.c (.rw 0))), (1, .w (.c (.sc (.i .i64 x1)))), (2, .w (.c (.sc (.i .i64 x2)))), (8, .w (.c (.rw 1))), (9, .w (.c (.rw 2))), (10, .w (.c (.sc (.i .i64 x10))))], [(0, .rows 0 (.e110 l0)), (1, .rows 2 (.e110 y1)), (2, .rows 2 (.e110 y2))]⟩ => (spec_l5Split.l0 k l0 x1 x2 y1 y2 x10).bind fun r => some (o127 l0 r)
  | _ => none
def K127 : List (Cut Rw) := [⟨[false, true, false, true, true], [0, 1, 2, 8, 9, 10], C127_0⟩]
theorem h127_0 : HH Tryz.prog O127 K127 Tryz.f127 [false, true, false, true, true] C127_0 := fun k st out h => by
  unfold C127_0 at h; split at h
  · rename_i x1 x2 x10 l0 y1 y2
    exact Lo.of (b := (if x10 < (l0.length : Int) then (if 0 ≤ x10 then (if x10 < (l0.length : Int) then (if (rd_T110 l0 x10).f0 = x1 then (if 0 ≤ x10 then (if x10 < (l0.length : Int) then (if (rd_T110 l0 x10).f1 = x2 then (if 0 ≤ x10 then (if x10 < (l0.length : Int) then (if y1.length + 1 < 3518437208884 then ((spec_l5Split.l0 k l0 x1 x2 (y1 ++ ([(⟨(rd_T110 l0 x10).f0, (rd_T110 l0 x10).f1, (rd_T110 l0 x10).f2, (rd_T110 l0 x10).f3, (rd_T110 l0 x10).f4⟩ : S110)])) y2 (RowKit.wrap64 (x10 + 1))).bind fun r => some (o127 l0 r)) else none) else none) else none) else (if 0 ≤ x10 then (if x10 < (l0.length : Int) then (if y2.length + 1 < 3518437208884 then ((spec_l5Split.l0 k l0 x1 x2 y1 (y2 ++ ([(⟨(rd_T110 l0 x10).f0, (rd_T110 l0 x10).f1, (rd_T110 l0 x10).f2, (rd_T110 l0 x10).f3, (rd_T110 l0 x10).f4⟩ : S110)])) (RowKit.wrap64 (x10 + 1))).bind fun r => some (o127 l0 r)) else none) else none) else none)) else none) else none) else (if 0 ≤ x10 then (if x10 < (l0.length : Int) then (if y2.length + 1 < 3518437208884 then ((spec_l5Split.l0 k l0 x1 x2 y1 (y2 ++ ([(⟨(rd_T110 l0 x10).f0, (rd_T110 l0 x10).f1, (rd_T110 l0 x10).f2, (rd_T110 l0 x10).f3, (rd_T110 l0 x10).f4⟩ : S110)])) (RowKit.wrap64 (x10 + 1))).bind fun r => some (o127 l0 r)) else none) else none) else none)) else none) else none) else (some (o127 l0 (y1, y2))))) (by kernel_rfl) (by rw [spec_l5Split.l0]; exact lo_) _ h
  · cases h
theorem d127 : Sound Tryz.prog q127 := fn_d (O := O127) (cs := K127) nil_ mixed Tryz.func127 (cons_ (fun st => by show C127_0 0 st = none; unfold C127_0; split <;> rfl) nil_) (cons_ h127_0 nil_) fun k a h Z K z e => by
  unfold Q127 at e; split at e
  · rename_i a1 a2 l0
    exact ent e (Lo.of (b := ((spec_l5Split.l0 k l0 a1 a2 ([]) ([]) 0).bind fun r => some (o127 l0 r))) (by kernel_rfl) (by unfold spec_l5Split.f; exact lo_))
  · cases e
def o128 (l0 : List S110) (r : Int) : Out Rw := ⟨[.c (.sc (.i .i64 r))], [.rows 0 (.e110 l0)]⟩
def Q128 : Mean Rw := fun k a h Z K => match a, h with
  | [.w (.c (.rw 0))], [.rows 0 (.e110 l0)] => (spec_l5Qty.f k l0).bind fun r => K (o128 l0 r)
  | _, _ => none
def q128 : Cal Rw := ⟨128, false, Q128⟩
def O128 : List (Cal Rw) := []
def C128_0 : Nat → St Rw → Option (Out Rw) := fun k st => match st with
  | ⟨19, 1, 1, [(0, .w (.c (.rw 0))), (3, .w (.c (.sc (.i .i64 x3)))), (4, .w (.c (.sc (.i .i64 x4))))], [(0, .rows 0 (.e110 l0))]⟩ => (spec_l5Qty.l0 k l0 x3 x4).bind fun r => some (o128 l0 r)
  | _ => none
def K128 : List (Cut Rw) := [⟨[false, true, false, true, true], [0, 3, 4], C128_0⟩]
theorem h128_0 : HH Tryz.prog O128 K128 Tryz.f128 [false, true, false, true, true] C128_0 := fun k st out h => by
  unfold C128_0 at h; split at h
  · rename_i x3 x4 l0
    exact Lo.of (b := (if x4 < (l0.length : Int) then (if 0 ≤ x4 then (if x4 < (l0.length : Int) then ((spec_l5Qty.l0 k l0 (RowKit.wrap64 (x3 + (rd_T110 l0 x4).f3)) (RowKit.wrap64 (x4 + 1))).bind fun r => some (o128 l0 r)) else none) else none) else (some (o128 l0 x3)))) (by kernel_rfl) (by rw [spec_l5Qty.l0]; exact lo_) _ h
  · cases h
theorem d128 : Sound Tryz.prog q128 := fn_d (O := O128) (cs := K128) nil_ mixed Tryz.func128 (cons_ (fun st => by show C128_0 0 st = none; unfold C128_0; split <;> rfl) nil_) (cons_ h128_0 nil_) fun k a h Z K z e => by
  unfold Q128 at e; split at e
  · rename_i l0
    exact ent e (Lo.of (b := ((spec_l5Qty.l0 k l0 0 0).bind fun r => some (o128 l0 r))) (by kernel_rfl) (by unfold spec_l5Qty.f; exact lo_))
  · cases e
def o129 (l0 : List S106) (r : Int) : Out Rw := ⟨[.c (.sc (.i .i64 r))], [.rows 0 (.e106 l0)]⟩
def Q129 : Mean Rw := fun k a h Z K => match a, h with
  | [.w (.c (.rw 0)), .w (.c (.sc (.i .i64 a1))), .w (.c (.sc (.i .i64 a2)))], [.rows 0 (.e106 l0)] => (spec_l4Of.f k l0 a1 a2).bind fun r => K (o129 l0 r)
  | _, _ => none
def q129 : Cal Rw := ⟨129, false, Q129⟩
def O129 : List (Cal Rw) := []
def C129_0 : Nat → St Rw → Option (Out Rw) := fun k st => match st with
  | ⟨35, 1, 1, [(0, .w (.c (.rw 0))), (1, .w (.c (.sc (.i .i64 x1)))), (2, .w (.c (.sc (.i .i64 x2)))), (7, .w (.c (.sc (.i .i64 x7))))], [(0, .rows 0 (.e106 l0))]⟩ => (spec_l4Of.l0 k l0 x1 x2 x7).bind fun r => some (o129 l0 r)
  | _ => none
def K129 : List (Cut Rw) := [⟨[false, true, false, true], [0, 1, 2, 7], C129_0⟩]
theorem h129_0 : HH Tryz.prog O129 K129 Tryz.f129 [false, true, false, true] C129_0 := fun k st out h => by
  unfold C129_0 at h; split at h
  · rename_i x1 x2 x7 l0
    exact Lo.of (b := (if x7 < (l0.length : Int) then (if 0 ≤ x7 then (if x7 < (l0.length : Int) then (if (rd_T106 l0 x7).f0 = x1 then (if 0 ≤ x7 then (if x7 < (l0.length : Int) then (if (rd_T106 l0 x7).f1 = x2 then (if 0 ≤ x7 then (if x7 < (l0.length : Int) then (some (o129 l0 ((rd_T106 l0 x7).f2))) else none) else none) else ((spec_l4Of.l0 k l0 x1 x2 (RowKit.wrap64 (x7 + 1))).bind fun r => some (o129 l0 r))) else none) else none) else ((spec_l4Of.l0 k l0 x1 x2 (RowKit.wrap64 (x7 + 1))).bind fun r => some (o129 l0 r))) else none) else none) else (some (o129 l0 0)))) (by kernel_rfl) (by rw [spec_l4Of.l0]; exact lo_) _ h
  · cases h
theorem d129 : Sound Tryz.prog q129 := fn_d (O := O129) (cs := K129) nil_ mixed Tryz.func129 (cons_ (fun st => by show C129_0 0 st = none; unfold C129_0; split <;> rfl) nil_) (cons_ h129_0 nil_) fun k a h Z K z e => by
  unfold Q129 at e; split at e
  · rename_i a1 a2 l0
    exact ent e (Lo.of (b := ((spec_l4Of.l0 k l0 a1 a2 0).bind fun r => some (o129 l0 r))) (by kernel_rfl) (by unfold spec_l4Of.f; exact lo_))
  · cases e
def o82 (l0_0 : List S80) (l0_1 : List S84) (l0_2 : List S106) (l0_3 : List S110) (l0_4 : List S60) (r : Bool) : Out Rw := ⟨[.c (.sc (.b r))], [.rows 0 (.e80 l0_0), .rows 0 (.e84 l0_1), .rows 0 (.e106 l0_2), .rows 0 (.e110 l0_3), .rows 0 (.e60 l0_4)]⟩
def Q82 : Mean Rw := fun k a h Z K => match a, h with
  | [.w (.ag [.rw 0, .rw 1, .rw 2, .rw 3, .rw 4, .sc (.i .i64 a0_5)])], [.rows 0 (.e80 l0_0), .rows 0 (.e84 l0_1), .rows 0 (.e106 l0_2), .rows 0 (.e110 l0_3), .rows 0 (.e60 l0_4)] => (spec_l6Lots.f k l0_0 l0_1 l0_2 l0_3 l0_4 a0_5).bind fun r => K (o82 l0_0 l0_1 l0_2 l0_3 l0_4 r)
  | _, _ => none
def q82 : Cal Rw := ⟨82, false, Q82⟩
def O82 : List (Cal Rw) := [q57, q62, q127, q128, q129]
def C82_0 : Nat → St Rw → Option (Out Rw) := fun k st => match st with
  | ⟨108, 5, 6, [(1, .pt 5 0), (3, .w (.c (.sc (.i .i64 x3))))], [(0, .rows 0 (.e80 l0_0)), (1, .rows 0 (.e84 l0_1)), (2, .rows 0 (.e106 l0_2)), (3, .rows 0 (.e110 l0_3)), (4, .rows 0 (.e60 l0_4)), (5, .box 36 [.rw 0, .rw 1, .rw 2, .rw 3, .rw 4, .sc (.i .i64 b5_5)])]⟩ => (spec_l6Lots.l0 k x3 l0_0 l0_1 l0_2 l0_3 l0_4 b5_5).bind fun r => some (o82 l0_0 l0_1 l0_2 l0_3 l0_4 r)
  | _ => none
def C82_1 : Nat → St Rw → Option (Out Rw) := fun k st => match st with
  | ⟨108, 5, 6, [(1, .pt 5 0), (5, .w (.c (.sc (.i .i64 x5))))], [(0, .rows 0 (.e80 l0_0)), (1, .rows 0 (.e84 l0_1)), (2, .rows 0 (.e106 l0_2)), (3, .rows 0 (.e110 l0_3)), (4, .rows 0 (.e60 l0_4)), (5, .box 36 [.rw 0, .rw 1, .rw 2, .rw 3, .rw 4, .sc (.i .i64 b5_5)])]⟩ => (spec_l6Lots.l1 k x5 l0_0 l0_1 l0_2 l0_3 l0_4 b5_5).bind fun r => some (o82 l0_0 l0_1 l0_2 l0_3 l0_4 r)
  | _ => none
def C82_2 : Nat → St Rw → Option (Out Rw) := fun k st => match st with
  | ⟨108, 5, 6, [(1, .pt 5 0), (5, .w (.c (.sc (.i .i64 x5)))), (6, .w (.c (.sc (.i .i64 x6))))], [(0, .rows 0 (.e80 l0_0)), (1, .rows 0 (.e84 l0_1)), (2, .rows 0 (.e106 l0_2)), (3, .rows 0 (.e110 l0_3)), (4, .rows 0 (.e60 l0_4)), (5, .box 36 [.rw 0, .rw 1, .rw 2, .rw 3, .rw 4, .sc (.i .i64 b5_5)])]⟩ => (spec_l6Lots.l2 k x5 x6 l0_0 l0_1 l0_2 l0_3 l0_4 b5_5).bind fun r => some (o82 l0_0 l0_1 l0_2 l0_3 l0_4 r)
  | _ => none
def C82_3 : Nat → St Rw → Option (Out Rw) := fun k st => match st with
  | ⟨108, 5, 6, [(1, .pt 5 0), (5, .w (.c (.sc (.i .i64 x5)))), (6, .w (.c (.sc (.i .i64 x6)))), (71, .w (.c (.sc (.b x71))))], [(0, .rows 0 (.e80 l0_0)), (1, .rows 0 (.e84 l0_1)), (2, .rows 0 (.e106 l0_2)), (3, .rows 0 (.e110 l0_3)), (4, .rows 0 (.e60 l0_4)), (5, .box 36 [.rw 0, .rw 1, .rw 2, .rw 3, .rw 4, .sc (.i .i64 b5_5)])]⟩ => (spec_l6Lots.j3 k x5 x6 x71 l0_0 l0_1 l0_2 l0_3 l0_4 b5_5).bind fun r => some (o82 l0_0 l0_1 l0_2 l0_3 l0_4 r)
  | _ => none
def K82 : List (Cut Rw) := [⟨[false, true, false, true], [1, 3], C82_0⟩, ⟨[false, true, false, true, true], [1, 5], C82_1⟩, ⟨[false, true, false, false, true, false, false, true, false, true, true], [1, 5, 6], C82_2⟩, ⟨[true, false, false, true, false, false, true, false, false, true, false, false, true, false, true, true], [1, 5, 6, 71], C82_3⟩]
theorem h82_0 : HH Tryz.prog O82 K82 Tryz.f82 [false, true, false, true] C82_0 := fun k st out h => by
  unfold C82_0 at h; split at h
  · rename_i x3 l0_0 l0_1 l0_2 l0_3 l0_4 b5_5
    exact Lo.of (b := (if x3 < (l0_3.length : Int) then (if 0 ≤ x3 then (if x3 < (l0_3.length : Int) then ((spec_AccountKind.f k l0_0 (rd_T110 l0_3 x3).f0).bind fun r8 => (if r8 = 1 then ((spec_InstrKind.f k l0_1 (rd_T110 l0_3 x3).f1).bind fun r9 => (if r9 = 2 then (if (rd_T110 l0_3 x3).f2 > b5_5 then (some (o82 l0_0 l0_1 l0_2 l0_3 l0_4 false)) else ((spec_l6Lots.l0 k (RowKit.wrap64 (x3 + 1)) l0_0 l0_1 l0_2 l0_3 l0_4 b5_5).bind fun r => some (o82 l0_0 l0_1 l0_2 l0_3 l0_4 r))) else (some (o82 l0_0 l0_1 l0_2 l0_3 l0_4 false)))) else (some (o82 l0_0 l0_1 l0_2 l0_3 l0_4 false)))) else none) else none) else ((spec_l6Lots.l1 k 0 l0_0 l0_1 l0_2 l0_3 l0_4 b5_5).bind fun r => some (o82 l0_0 l0_1 l0_2 l0_3 l0_4 r)))) (by kernel_rfl) (by rw [spec_l6Lots.l0]; exact lo_) _ h
  · cases h
theorem h82_1 : HH Tryz.prog O82 K82 Tryz.f82 [false, true, false, true, true] C82_1 := fun k st out h => by
  unfold C82_1 at h; split at h
  · rename_i x5 l0_0 l0_1 l0_2 l0_3 l0_4 b5_5
    exact Lo.of (b := (if x5 < (l0_0.length : Int) then ((spec_l6Lots.l2 k x5 0 l0_0 l0_1 l0_2 l0_3 l0_4 b5_5).bind fun r => some (o82 l0_0 l0_1 l0_2 l0_3 l0_4 r)) else (some (o82 l0_0 l0_1 l0_2 l0_3 l0_4 true)))) (by kernel_rfl) (by rw [spec_l6Lots.l1]; exact lo_) _ h
  · cases h
theorem h82_2 : HH Tryz.prog O82 K82 Tryz.f82 [false, true, false, false, true, false, false, true, false, true, true] C82_2 := fun k st out h => by
  unfold C82_2 at h; split at h
  · rename_i x5 x6 l0_0 l0_1 l0_2 l0_3 l0_4 b5_5
    exact Lo.of (b := (if x6 < (l0_1.length : Int) then (if 0 ≤ x5 then (if x5 < (l0_0.length : Int) then (if (rd_T80 l0_0 x5).f1 = 1 then (if 0 ≤ x6 then (if x6 < (l0_1.length : Int) then ((spec_l6Lots.j3 k x5 x6 (decide ((rd_T84 l0_1 x6).f1 = 2)) l0_0 l0_1 l0_2 l0_3 l0_4 b5_5).bind fun r => some (o82 l0_0 l0_1 l0_2 l0_3 l0_4 r)) else none) else none) else ((spec_l6Lots.j3 k x5 x6 false l0_0 l0_1 l0_2 l0_3 l0_4 b5_5).bind fun r => some (o82 l0_0 l0_1 l0_2 l0_3 l0_4 r))) else none) else none) else ((spec_l6Lots.l1 k (RowKit.wrap64 (x5 + 1)) l0_0 l0_1 l0_2 l0_3 l0_4 b5_5).bind fun r => some (o82 l0_0 l0_1 l0_2 l0_3 l0_4 r)))) (by kernel_rfl) (by rw [spec_l6Lots.l2]; exact lo_) _ h
  · cases h
theorem h82_3 : HH Tryz.prog O82 K82 Tryz.f82 [true, false, false, true, false, false, true, false, false, true, false, false, true, false, true, true] C82_3 := fun k st out h => by
  unfold C82_3 at h; split at h
  · rename_i x5 x6 x71 l0_0 l0_1 l0_2 l0_3 l0_4 b5_5
    exact Lo.of (b := (if x71 = true then (if 0 ≤ x5 then (if x5 < (l0_0.length : Int) then (if 0 ≤ x6 then (if x6 < (l0_1.length : Int) then ((spec_l5Split.f k l0_3 (rd_T80 l0_0 x5).f0 (rd_T84 l0_1 x6).f0).bind fun r10 => (if 0 ≤ x5 then (if x5 < (l0_0.length : Int) then (if 0 ≤ x6 then (if x6 < (l0_1.length : Int) then ((spec_l5Qty.f k r10.1).bind fun r11 => ((spec_l4Of.f k l0_2 (rd_T80 l0_0 x5).f0 (rd_T84 l0_1 x6).f0).bind fun r12 => (if r11 = r12 then ((spec_l6Lots.l2 k x5 (RowKit.wrap64 (x6 + 1)) l0_0 l0_1 l0_2 l0_3 l0_4 b5_5).bind fun r => some (o82 l0_0 l0_1 l0_2 l0_3 l0_4 r)) else (some (o82 l0_0 l0_1 l0_2 l0_3 l0_4 false))))) else none) else none) else none) else none)) else none) else none) else none) else none) else ((spec_l6Lots.l2 k x5 (RowKit.wrap64 (x6 + 1)) l0_0 l0_1 l0_2 l0_3 l0_4 b5_5).bind fun r => some (o82 l0_0 l0_1 l0_2 l0_3 l0_4 r)))) (by kernel_rfl) (by rw [spec_l6Lots.j3]; exact lo_) _ h
  · cases h
theorem d82 : Sound Tryz.prog q82 := fn_d (O := O82) (cs := K82) (cons_ d57 (cons_ d62 (cons_ d127 (cons_ d128 (cons_ d129 nil_))))) mixed Tryz.func82 (cons_ (fun st => by show C82_0 0 st = none; unfold C82_0; split <;> rfl) (cons_ (fun st => by show C82_1 0 st = none; unfold C82_1; split <;> rfl) (cons_ (fun st => by show C82_2 0 st = none; unfold C82_2; split <;> rfl) (cons_ (fun st => by show C82_3 0 st = none; unfold C82_3; split <;> rfl) nil_)))) (cons_ h82_0 (cons_ h82_1 (cons_ h82_2 (cons_ h82_3 nil_)))) fun k a h Z K z e => by
  unfold Q82 at e; split at e
  · rename_i a0_5 l0_0 l0_1 l0_2 l0_3 l0_4
    exact ent e (Lo.of (b := ((spec_l6Lots.l0 k 0 l0_0 l0_1 l0_2 l0_3 l0_4 a0_5).bind fun r => some (o82 l0_0 l0_1 l0_2 l0_3 l0_4 r))) (by kernel_rfl) (by unfold spec_l6Lots.f; exact lo_))
  · cases e
end
end Go.Proofs.YtmfgajbkcnlkcaaGreat.AI
