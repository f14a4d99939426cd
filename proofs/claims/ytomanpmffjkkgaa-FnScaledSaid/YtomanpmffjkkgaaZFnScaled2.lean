/- What the law FnScaled leans on, cut out of this repo's own texts by a program of this repo: plain functions, the walks that tie the Go calls to them, the law over lists and numbers, and the row. -/
import Derived.Test.YtomanpmffjkkgaaZFnScaled1
namespace Go.Proofs.Ytomanpmffjkkgaa.P
open Go.RowKit Go.Proofs.YtomanpmffjkkgaaW.PrintWords Go.Proofs.YtomanpmffjkkgaaW.PrintLast Go.Proofs.YtomanpmffjkkgaaW.PrintMore
attribute [local go_sem] max2_int min2_int max_two min_two max_three min_three max_four min_four   -- for this text's walks alone
set_option linter.unusedVariables false
set_option linter.unusedSimpArgs false
def impl_LotsOk.form (x : S37) : Bool := decide ((1 ≤ x.f0 ∧ x.f0 ≤ 1000) ∧ (1 ≤ x.f1 ∧ x.f1 ≤ 1000) ∧ (1 ≤ x.f2 ∧ x.f2 ≤ 1000000000) ∧ (1 ≤ x.f3 ∧ x.f3 ≤ 1000000000000000) ∧ 0 ≤ x.f4 ∧ x.f4 ≤ 1000000000000000)
def impl_LotsOk.cmp (a b : S37) : Int := if a.f0 < b.f0 then -1 else if b.f0 < a.f0 then 1 else if a.f1 < b.f1 then -1 else if b.f1 < a.f1 then 1 else if a.f2 < b.f2 then -1 else if b.f2 < a.f2 then 1 else 0
def impl_LotsOk.chk (l : List (S37)) : Nat → Nat → Bool
 | 0, _ => true
 | n + 1, i => if impl_LotsOk.form (l.getD i z37) = true ∧ ¬(0 < i ∧ 0 ≤ impl_LotsOk.cmp (l.getD (i - 1) z37) (l.getD i z37)) then impl_LotsOk.chk l n (i + 1) else false
def impl_LotsOk.sum3 (l : List (S37)) (q : Int) : Int := l.foldl (fun q x => wrap64 (q + x.f3)) q
def impl_LotsOk.sum4 (l : List (S37)) (q : Int) : Int := l.foldl (fun q x => wrap64 (q + x.f4)) q
def impl_LotsOk.amt (a : Int) : Bool := decide (-1000000000000000 ≤ a ∧ a ≤ 1000000000000000)
def impl_LotsOk.of (l : List (S37)) (a b : Int) : List (S37) := l.filter fun x => decide (x.f0 = a ∧ x.f1 = b)
def impl_LotsOk.over (l : List (S37)) (x : S37) : Bool := if impl_LotsOk.amt (impl_LotsOk.sum3 (impl_LotsOk.of l x.f0 x.f1) 0) = true then !impl_LotsOk.amt (impl_LotsOk.sum4 (impl_LotsOk.of l x.f0 x.f1) 0) else true
def impl_LotsOk.ok (l : List (S37)) : Bool := if impl_LotsOk.chk l l.length 0 = true then (if (l.length : Int) > 120 then false else !(l.any (impl_LotsOk.over l))) else false
def impl_LotsOk.f (l0 : List (S37)) : Option Bool := if l0.length < 1048577 then some (impl_LotsOk.ok l0) else none
theorem impl_LotsOk.in_ (a lo hi : Int) : impl_in.f a lo hi = some (decide (lo ≤ a ∧ a ≤ hi)) := by
 unfold impl_in.f
 by_cases h : a ≥ lo
 ·
  rw [if_pos h]
  congr 1
  rw [Bool.eq_iff_iff, decide_eq_true_iff, decide_eq_true_iff]
  omega
 ·
  rw [if_neg h]
  congr 1
  symm
  rw [decide_eq_false_iff_not]
  omega
theorem impl_LotsOk.amt_ (a : Int) : impl_AmountOk.f a = some (impl_LotsOk.amt a) := by
 unfold impl_AmountOk.f impl_LotsOk.amt
 rw [impl_LotsOk.in_]
 rfl
theorem impl_LotsOk.no_ (a : Int) : impl_isNo.f a = some (decide (1 ≤ a ∧ a ≤ 1000)) := by
 unfold impl_isNo.f
 rw [impl_LotsOk.in_]
 rfl
theorem impl_LotsOk.form_ (x : S37) : impl_lotForm.f x.f0 x.f1 x.f2 x.f3 x.f4 = some (impl_LotsOk.form x) := by
 unfold impl_lotForm.f impl_LotsOk.form
 simp only [impl_LotsOk.in_, impl_LotsOk.no_, Option.bind_some]
 by_cases h0 : 1 ≤ x.f0 ∧ x.f0 ≤ 1000
 ·
  by_cases h1 : 1 ≤ x.f1 ∧ x.f1 ≤ 1000
  ·
   by_cases h2 : 1 ≤ x.f2 ∧ x.f2 ≤ 1000000000
   ·
    by_cases h3 : 1 ≤ x.f3 ∧ x.f3 ≤ 1000000000000000 <;> simp [h0, h1, h2, h3]
   ·
    simp [h0, h1, h2]
  ·
   simp [h0, h1]
 ·
  simp [h0]
theorem impl_LotsOk.cmp_ (a b : S37) : impl_lotBefore.f 1 a.f0 a.f1 a.f2 a.f3 a.f4 b.f0 b.f1 b.f2 b.f3 b.f4 = some (impl_LotsOk.cmp a b) := by
 unfold impl_lotBefore.f impl_byBoth.f impl_LotsOk.cmp
 simp only [impl_byBoth.j0]
 by_cases h0 : a.f0 < b.f0
 ·
  simp [h0]
 ·
  by_cases h1 : a.f0 = b.f0
  ·
   have n1 : ¬b.f0 < a.f0 := by omega
   by_cases h2 : a.f1 < b.f1
   ·
    simp [h1, h2]
   ·
    by_cases h3 : a.f1 = b.f1
    ·
     by_cases h4 : a.f2 < b.f2
     ·
      simp [h1, h3, h4]
     ·
      by_cases h5 : b.f2 < a.f2 <;> simp [h1, h3, h4, h5]
    ·
     have n3 : b.f1 < a.f1 := by omega
     simp [h1, h2, h3, n3]
  ·
   have n1 : b.f0 < a.f0 := by omega
   simp [h0, h1, n1]
theorem impl_LotsOk.sum_go (l : List (S37)) (hl : l.length < 1048577) : ∀ (n i : Nat) (q c : Int), l.length - i = n → i ≤ l.length → impl_sumLots.l0 (n + 1) q c l (l.length : Int) (i : Int) = some (impl_LotsOk.sum3 (l.drop i) q, impl_LotsOk.sum4 (l.drop i) c)
 | 0, i, q, c, hn, hi => by
  have e : i = l.length := by omega
  subst e; rw [impl_sumLots.l0, if_neg (by omega), List.drop_length]
  rfl
 | n + 1, i, q, c, hn, hi => by
  have h1 : i < l.length := by omega
  rw [impl_sumLots.l0, if_pos (by omega), if_pos (by omega), if_pos (by omega)]
  have hw : wrap64 ((i : Int) + 1) = ((i + 1 : Nat) : Int) := by
   unfold wrap64
   omega
  rw [hw, impl_LotsOk.sum_go l hl n (i + 1) _ _ (by omega) (by omega), List.drop_eq_getElem_cons h1]
  have e : rd_T37 l (i : Int) = l[i] := by
   unfold rd_T37
   rw [Int.toNat_natCast, List.getD_eq_getElem?_getD, List.getElem?_eq_getElem h1]
   rfl
  rw [e]
  rfl
theorem impl_LotsOk.sum_ (l : List (S37)) (hl : l.length < 1048577) : impl_sumLots.f (l.length + 1) l = some (impl_LotsOk.sum3 l 0, impl_LotsOk.sum4 l 0) := impl_LotsOk.sum_go l hl l.length 0 0 0 (by omega) (by omega)
set_option maxHeartbeats 8000000 in
set_option maxRecDepth 100000 in
theorem impl_LotsOk.clo (B : Nat) (A0 : Option Addr) (c0 : Nat) (l0 : List (S37)) (x : S37) (W : World) (h1 : W.cell? ⟨B, 0, none⟩ = some (.slice A0 l0.length c0)) (hC : Kd.C k37 W A0 l0.length l0) (hc0 : l0.length ≤ c0) (hl : l0.length < 1048577) :
 Calls Try.prog 45 #[.agg #[.int .i64 x.f0, .int .i64 x.f1, .int .i64 x.f2, .int .i64 x.f3, .int .i64 x.f4], .pointer (some ⟨B, 0, none⟩)] W fun e W' => e = .returned (.bool (impl_LotsOk.over l0 x)) ∧ Below W.heap.size W W' := by
 have HB := Aside0.mk (Below.refl W.heap.size W); have HC := Aside0.mk hC; have HC0 := Aside0.mk hc0
 have HF : Aside0 (impl_lotsOf.f l0 x.f0 x.f1 = some (impl_LotsOk.of l0 x.f0 x.f1)) := ⟨by
  unfold impl_lotsOf.f
  rw [if_pos hl]
  rfl⟩
 have HL : Aside0 ((impl_LotsOk.of l0 x.f0 x.f1).length < 1048577) := ⟨Nat.lt_of_le_of_lt (List.length_filter_le _ _) hl⟩; have HO : Aside0 (impl_LotsOk.over l0 x = if impl_LotsOk.amt (impl_LotsOk.sum3 (impl_LotsOk.of l0 x.f0 x.f1) 0) = true then !impl_LotsOk.amt (impl_LotsOk.sum4 (impl_LotsOk.of l0 x.f0 x.f1) 0) else true) := ⟨rfl⟩; generalize impl_LotsOk.over l0 x = ov at HO ⊢
 generalize impl_LotsOk.of l0 x.f0 x.f1 = part at HF HL HO
 have HS := Aside0.mk (impl_LotsOk.sum_ part HL.out); generalize impl_LotsOk.sum3 part 0 = q at HS HO
 generalize impl_LotsOk.sum4 part 0 = c at HS HO
 have HQ := Aside0.mk (impl_LotsOk.amt_ q); have HD := Aside0.mk (impl_LotsOk.amt_ c); generalize impl_LotsOk.amt q = bq at HQ HO
 generalize impl_LotsOk.amt c = bc at HD HO
 have g1 := Lib.cell?_alloc_some (.cells #[.int .i64 x.f0, .int .i64 x.f1, .int .i64 x.f2, .int .i64 x.f3, .int .i64 x.f4] 37 (0, 0)) h1; clear h1 hC hc0 hl
 cases bq with
 | true =>
  obtain rfl : ov = !bc := HO.out; clear HO; go_enter Try.func45, Try.ntmps45; go_wp2_with (first | (go_at_call 47; refine (impl_lotsOf.calls A0 c0 l0 x.f0 x.f1 part _ (Kd.C_alloc HC.out _) HC0.out HF.out).mono ?_; rintro e w5 ⟨v, rfl, ho, hb⟩; obtain ⟨A1, c1, rfl, hc1, hr1⟩ := Kd.R_reads ho; replace HB := Aside0.mk (below_step (below_alloc HB.out _) hb); have HR1 := Aside0.mk hr1; have HC1 := Aside0.mk hc1; clear ho hb hr1 hc1) | (go_at_call 46; refine (impl_sumLots.calls (part.length + 1) A1 c1 part q c _ HR1.out HC1.out HS.out).mono ?_; rintro e w6 ⟨rfl, hb⟩; replace HB := Aside0.mk (below_step HB.out hb); clear hb) | (go_at_call_of 48 (Value.int .i64 q); refine (impl_AmountOk.calls q _ _ HQ.out).mono ?_; rintro e w7 ⟨rfl, ⟨nd, rfl⟩⟩) | (go_at_call_of 48 (Value.int .i64 c); refine (impl_AmountOk.calls c _ _ HD.out).mono ?_; rintro e w8 ⟨rfl, ⟨nd, rfl⟩⟩))
  go_ret; exact ⟨rs_, bb_⟩
 | false =>
  obtain rfl : ov = true := HO.out; clear HO; go_enter Try.func45, Try.ntmps45; go_wp2_with (first | (go_at_call 47; refine (impl_lotsOf.calls A0 c0 l0 x.f0 x.f1 part _ (Kd.C_alloc HC.out _) HC0.out HF.out).mono ?_; rintro e w5 ⟨v, rfl, ho, hb⟩; obtain ⟨A1, c1, rfl, hc1, hr1⟩ := Kd.R_reads ho; replace HB := Aside0.mk (below_step (below_alloc HB.out _) hb); have HR1 := Aside0.mk hr1; have HC1 := Aside0.mk hc1; clear ho hb hr1 hc1) | (go_at_call 46; refine (impl_sumLots.calls (part.length + 1) A1 c1 part q c _ HR1.out HC1.out HS.out).mono ?_; rintro e w6 ⟨rfl, hb⟩; replace HB := Aside0.mk (below_step HB.out hb); clear hb) | (go_at_call 48; refine (impl_AmountOk.calls q _ _ HQ.out).mono ?_; rintro e w7 ⟨rfl, ⟨nd, rfl⟩⟩))
  go_ret; exact ⟨rs_, bb_⟩
theorem impl_LotsOk.pred {B : Nat} {A0 : Option Addr} {c0 : Nat} {l0 : List (S37)} {w : World} (h1 : w.cell? ⟨B, 0, none⟩ = some (.slice A0 l0.length c0)) (hC : Kd.C k37 w A0 l0.length l0) (hc0 : l0.length ≤ c0) (hl : l0.length < 1048577) :
 X0.FnB Try.prog 45 #[.pointer (some ⟨B, 0, none⟩)] w (fun x : S37 => .agg #[.int .i64 x.f0, .int .i64 x.f1, .int .i64 x.f2, .int .i64 x.f3, .int .i64 x.f4]) (impl_LotsOk.over l0) :=
 ⟨_, Try.func45, by kernel_rfl, rfl, fun x W hW => impl_LotsOk.clo B A0 c0 l0 x W ((hW.cell (World.block_lt_of_cell? w _ h1)).trans h1) (Kd.C_below hC hW) hc0 hl⟩
def impl_LotsOk.T4 : Bool × List (List Nat × List Nat) := (true, [([], []), ([0], [0]), ([1], [1]), ([2, 1], [2]), ([3], [3]), ([4, 3], [3, 4]), ([5, 3, 3], [3, 5]), ([6], [6]), ([6], [6]), ([8, 6], [6, 8]), ([7, 9, 6], [6, 7, 9]), ([10, 6], [6, 10]), ([6], [6]), ([11, 12, 6, 6], [6, 11, 12]), ([13, 6], [6, 13]), ([6, 14, 3], [3, 6, 14]), ([3, 15], [3, 15])])
def impl_LotsOk.B4 : List Nat := [0, 1, 3, 7, 15, 31, 63, 127, 127, 383, 1023, 2047, 127, 8191, 16383, 32767, 65535]
theorem impl_LotsOk.tab4 : rtab .any (opsOf Try.f17 4) = impl_LotsOk.T4 := by kernel_rfl
theorem impl_LotsOk.bits4 : waitsOk impl_LotsOk.T4.2 impl_LotsOk.B4 = true := by kernel_rfl
theorem impl_LotsOk.step_ (l : List (S37)) (n : Nat) (x : Int) (h0 : 0 ≤ x) : impl_LotsOk.chk l (n + 1) x.toNat = if impl_LotsOk.form (rd_T37 l x) = true then (if x > 0 then (if 0 ≤ impl_LotsOk.cmp (rd_T37 l (x - 1)) (rd_T37 l x) then false else impl_LotsOk.chk l n (x + 1).toNat) else impl_LotsOk.chk l n (x + 1).toNat) else false := by
 have e1 : (x + 1).toNat = x.toNat + 1 := by omega
 have e2 : (x - 1).toNat = x.toNat - 1 := by omega
 have e3 : x > 0 ↔ 0 < x.toNat := by omega
 unfold rd_T37
 rw [impl_LotsOk.chk, e1, e2]
 generalize impl_LotsOk.form (l.getD x.toNat z37) = b
 generalize impl_LotsOk.cmp (l.getD (x.toNat - 1) z37) (l.getD x.toNat z37) = c
 cases b
 ·
  simp
 ·
  by_cases h1 : 0 < x.toNat
  ·
   have h2 : 0 < x := e3.2 h1
   by_cases h3 : 0 ≤ c
   ·
    simp [h1, h2, h3]
   ·
    simp [h1, h2, h3]
  ·
   have h2 : ¬0 < x := fun h => h1 (e3.1 h); simp [h1, h2]
set_option maxHeartbeats 16000000 in
set_option maxRecDepth 100000 in
theorem impl_LotsOk.calls (A0 : Option Addr) (c0 : Nat) (l0 : List (S37)) (r : Bool) (w : World) (hr0 : Kd.C k37 w A0 l0.length l0) (hc0 : l0.length ≤ c0) (h : impl_LotsOk.f l0 = some r) :
 Calls Try.prog 17 #[.slice A0 l0.length c0] w fun e w' => e = .returned (.bool r) ∧ Below w.heap.size w w' := by
 have hu37 := Try.underlying37; unfold impl_LotsOk.f at h
 by_cases hl : l0.length < 1048577
 ·
  rw [if_pos hl] at h; obtain rfl := Option.some.inj h; clear h; have HL := Aside0.mk hl; have HC0 := Aside0.mk hc0; have HQ : Aside0 (impl_LotsOk.ok l0 = if impl_LotsOk.chk l0 l0.length 0 = true then (if (l0.length : Int) > 120 then false else !(l0.any (impl_LotsOk.over l0))) else false) := ⟨rfl⟩; generalize impl_LotsOk.ok l0 = r at HQ ⊢
  generalize hq0 : impl_LotsOk.chk l0 l0.length 0 = q0 at HQ
  have HK := Aside0.mk hq0; clear hq0; have HW := Aside0.mk (below_alloc (Below.refl w.heap.size w) (.cells #[.slice A0 l0.length c0] 25 (0, 0))); have HX : Aside0 ((w.alloc (.cells #[.slice A0 l0.length c0] 25 (0, 0))).cell? ⟨w.heap.size, 0, none⟩ = some (.slice A0 l0.length c0)) := ⟨DG.cell_new w #[.slice A0 l0.length c0] 25 0⟩; have HR1 := Aside0.mk (Kd.C_alloc hr0 (.cells #[.slice A0 l0.length c0] 25 (0, 0))); clear hr0 hc0 hl; go_enter Try.func17, Try.ntmps17; go_wp2; generalize w.alloc (.cells #[.slice A0 l0.length c0] 25 (0, 0)) = w1 at HW HX HR1 ⊢
  have HB := Aside0.mk (Below.refl w1.heap.size w1); go_loopg [7] l0.length (fun kq v7 w' => ∃ (x : Int), v7 = .int .i64 x ∧ Aside0 (0 ≤ x ∧ x ≤ l0.length ∧ kq = (l0.length - x).toNat ∧ impl_LotsOk.chk l0 (l0.length - x).toNat x.toNat = q0) ∧ Aside0 (Below w1.heap.size w1 w'))
  case atStart => exact ⟨0, rfl, ⟨Int.le_refl _, by omega, by omega, by rw [Int.sub_zero, Int.toNat_natCast]; exact HK.out⟩, ⟨HB.out⟩⟩
  case round =>
   clear HB; obtain ⟨x, rfl, HA, HB⟩ := hrel
   by_cases c3 : x < (l0.length : Int)
   ·
    have c3b0 : decide (x < (l0.length : Int)) = true := decide_eq_true c3; have p1 : 0 ≤ x := HA.out.1
    have HKx : Aside0 (impl_LotsOk.chk l0 ((l0.length - (x + 1)).toNat + 1) x.toNat = q0) := ⟨by
     have h1 := HA.out.2.2.2; have e1 : (l0.length - x).toNat = (l0.length - (x + 1)).toNat + 1 := by omega
     rw [e1] at h1; exact h1⟩
    have C3 := Aside0.mk c3; obtain ⟨ad, e, hx_0, hx_1, hx_2, hx_3, hx_4⟩ := at_T37 HR1.out x p1 c3; cases e; replace hx_0 := (HB.out.cell (World.block_lt_of_cell? w1 _ hx_0)).trans hx_0; replace hx_1 := (HB.out.cell (World.block_lt_of_cell? w1 _ hx_1)).trans hx_1; replace hx_2 := (HB.out.cell (World.block_lt_of_cell? w1 _ hx_2)).trans hx_2; replace hx_3 := (HB.out.cell (World.block_lt_of_cell? w1 _ hx_3)).trans hx_3; replace hx_4 := (HB.out.cell (World.block_lt_of_cell? w1 _ hx_4)).trans hx_4; replace p1 := eq_true p1; have q1 := eq_true c3; clear c3; go_upto_region 4 with (first | ((with_reducible refine gate_dst (N := 4) rfl ?_); refine be_ 4 (cs := #[.int .i64 0, .int .i64 0, .int .i64 0, .int .i64 0, .int .i64 0]) (t := 37) ?_; intro gb hg w6 hbox hb; have n_ := as3_ (below_step (bb_) hb) (hbox) ((by rw [hg]; exact (below_size (bb_)) : w1.heap.size ≤ gb)); clear HB; obtain ⟨HB, BK, GE⟩ := n_; clear hb hbox hg; obtain ⟨hcz_0, hcz_1, hcz_2, hcz_3, hcz_4, hfz_0, hfz_1, hfz_2, hfz_3, hfz_4⟩ := ce5_ BK.out))
    (try simp only [Act.put, List.setIfInBounds_toArray, List.set_cons_zero, List.set_cons_succ])
    have n0_ : Aside0 ((((((w6.setCell ⟨gb, 0, none⟩ (.int .i64 ((rd_T37 l0 x).f0))).setCell ⟨gb, 1, none⟩ (.int .i64 ((rd_T37 l0 x).f1))).setCell ⟨gb, 2, none⟩ (.int .i64 ((rd_T37 l0 x).f2))).setCell ⟨gb, 3, none⟩ (.int .i64 ((rd_T37 l0 x).f3))).setCell ⟨gb, 4, none⟩ (.int .i64 ((rd_T37 l0 x).f4))).heap[gb]? = some (.cells #[.int .i64 ((rd_T37 l0 x).f0), .int .i64 ((rd_T37 l0 x).f1), .int .i64 ((rd_T37 l0 x).f2), .int .i64 ((rd_T37 l0 x).f3), .int .i64 ((rd_T37 l0 x).f4)] 37 (0, 0))) := ⟨by (with_reducible repeat (first | refine blk_drewN ?_ _ | refine blk_drew ?_ | refine blk_alloc ?_ _)); refine blk_put (cs := #[.int .i64 ((rd_T37 l0 x).f0), .int .i64 ((rd_T37 l0 x).f1), .int .i64 ((rd_T37 l0 x).f2), .int .i64 ((rd_T37 l0 x).f3), .int .i64 0]) ?_ 4 _ rfl; (with_reducible repeat (first | refine blk_drewN ?_ _ | refine blk_drew ?_ | refine blk_alloc ?_ _)); refine blk_put (cs := #[.int .i64 ((rd_T37 l0 x).f0), .int .i64 ((rd_T37 l0 x).f1), .int .i64 ((rd_T37 l0 x).f2), .int .i64 0, .int .i64 0]) ?_ 3 _ rfl; (with_reducible repeat (first | refine blk_drewN ?_ _ | refine blk_drew ?_ | refine blk_alloc ?_ _)); refine blk_put (cs := #[.int .i64 ((rd_T37 l0 x).f0), .int .i64 ((rd_T37 l0 x).f1), .int .i64 0, .int .i64 0, .int .i64 0]) ?_ 2 _ rfl; (with_reducible repeat (first | refine blk_drewN ?_ _ | refine blk_drew ?_ | refine blk_alloc ?_ _)); refine blk_put (cs := #[.int .i64 ((rd_T37 l0 x).f0), .int .i64 0, .int .i64 0, .int .i64 0, .int .i64 0]) ?_ 1 _ rfl; (with_reducible repeat (first | refine blk_drewN ?_ _ | refine blk_drew ?_ | refine blk_alloc ?_ _)); refine blk_put (cs := #[.int .i64 0, .int .i64 0, .int .i64 0, .int .i64 0, .int .i64 0]) ?_ 0 _ rfl; (with_reducible repeat (first | refine blk_drewN ?_ _ | refine blk_drew ?_ | refine blk_alloc ?_ _)); exact BK.out⟩
    have n1_ : Aside0 (Below w1.heap.size w1 (((((w6.setCell ⟨gb, 0, none⟩ (.int .i64 ((rd_T37 l0 x).f0))).setCell ⟨gb, 1, none⟩ (.int .i64 ((rd_T37 l0 x).f1))).setCell ⟨gb, 2, none⟩ (.int .i64 ((rd_T37 l0 x).f2))).setCell ⟨gb, 3, none⟩ (.int .i64 ((rd_T37 l0 x).f3))).setCell ⟨gb, 4, none⟩ (.int .i64 ((rd_T37 l0 x).f4)))) := ⟨bg_ GE.out⟩; (try clear BK); (try clear HB); generalize (((((w6.setCell ⟨gb, 0, none⟩ (.int .i64 ((rd_T37 l0 x).f0))).setCell ⟨gb, 1, none⟩ (.int .i64 ((rd_T37 l0 x).f1))).setCell ⟨gb, 2, none⟩ (.int .i64 ((rd_T37 l0 x).f2))).setCell ⟨gb, 3, none⟩ (.int .i64 ((rd_T37 l0 x).f3))).setCell ⟨gb, 4, none⟩ (.int .i64 ((rd_T37 l0 x).f4))) = w15 at n0_ n1_ ⊢
    have BK := n0_; have HB := n1_; clear n0_ n1_; have n_ := as2_ (blk_drew BK.out) (below_drew1 HB.out); clear BK HB; obtain ⟨BK, HB⟩ := n_; have HFm := Aside0.mk (impl_LotsOk.form_ (rd_T37 l0 x)); have HSt := Aside0.mk (impl_LotsOk.step_ l0 (l0.length - (x + 1)).toNat x HA.out.1)
    cases hfm : impl_LotsOk.form (rd_T37 l0 x) with
    | false =>
     have hq : q0 = false := by
      have h1 := HKx.out; have h2 := HSt.out; rw [h1, hfm] at h2; simpa using h2
     rw [hfm] at HFm
     obtain rfl : r = false := by
      have h1 := HQ.out; rw [hq] at h1; simpa using h1
     clear HQ HSt hfm hq; refine start_ (n := 17) (S := fun w' => w'.cell? ⟨gb, 0, none⟩ = some (.int .i64 ((rd_T37 l0 x).f0)) ∧ w'.cell? ⟨gb, 1, none⟩ = some (.int .i64 ((rd_T37 l0 x).f1)) ∧ w'.cell? ⟨gb, 2, none⟩ = some (.int .i64 ((rd_T37 l0 x).f2)) ∧ w'.cell? ⟨gb, 3, none⟩ = some (.int .i64 ((rd_T37 l0 x).f3)) ∧ w'.cell? ⟨gb, 4, none⟩ = some (.int .i64 ((rd_T37 l0 x).f4)) ∧ w'.cell? ⟨w.heap.size, 0, none⟩ = some (.slice (some ad) l0.length c0)) (ds := []) (ba_ 17 0) kr_ rfl rfl ⟨(blk_cell BK.out 0).trans rfl, (blk_cell BK.out 1).trans rfl, (blk_cell BK.out 2).trans rfl, (blk_cell BK.out 3).trans rfl, (blk_cell BK.out 4).trans rfl, ((HB.out.cell (World.block_lt_of_cell? w1 _ HX.out)).trans HX.out)⟩ (fun hHeld => ?_); refine with_tabW impl_LotsOk.tab4 impl_LotsOk.bits4 (fun HT_ HW_ => ?_)
     refine ta_ 0 12 HT_.out HW_.out hHeld (ba_ 17 1) ?_; refine one_ (i := 1) (N := some 13) (ba_ 17 3) rfl rfl (one_of HT_.out kr_) (by decide) (fun K hK => ?_)
     refine goes_ Try.func42 kr_ rfl #[.agg #[.int .i64 ((rd_T37 l0 x).f0), .int .i64 ((rd_T37 l0 x).f1), .int .i64 ((rd_T37 l0 x).f2), .int .i64 ((rd_T37 l0 x).f3), .int .i64 ((rd_T37 l0 x).f4)]] (by rfl) rfl rfl (by (try simp only [List.map_toArray, List.map_cons, List.map_nil]); first | done | rfl | (simp only [i64_w]; rfl)) ?_
     with_reducible refine (impl_lotForm.calls _ _ _ _ _ false _ HFm.out).mono ?_
     rintro e w7 ⟨rfl, hb⟩; refine ⟨_, rfl, ?_⟩
     have n_ := as2_ (blk_below (g := gb) (o := .cells #[.int .i64 ((rd_T37 l0 x).f0), .int .i64 ((rd_T37 l0 x).f1), .int .i64 ((rd_T37 l0 x).f2), .int .i64 ((rd_T37 l0 x).f3), .int .i64 ((rd_T37 l0 x).f4)] 37 (0, 0)) (pb_ BK.out) hb) (below_step (bg_ GE.out) hb); clear BK HB; obtain ⟨BK, HB⟩ := n_; clear hb; refine hK.out _ _ ⟨(blk_cell BK.out 0).trans rfl, (blk_cell BK.out 1).trans rfl, (blk_cell BK.out 2).trans rfl, (blk_cell BK.out 3).trans rfl, (blk_cell BK.out 4).trans rfl, ((HB.out.cell (World.block_lt_of_cell? w1 _ HX.out)).trans HX.out)⟩ (fun hHeld => ?_)
     clear hK K; refine norm_ (a' := ?_) ?_ ?_
     rotate_left
     ·
      show Act.put _ (some 13) _ = _
      exact sp_
     refine pu_ 2 14 HT_.out (ba_ 17 7) ?_; refine pu_ 3 15 HT_.out (ba_ 17 15) ?_; refine sk_ 4 16 HT_.out (ba_ 17 31) ?_; refine sk_ 5 17 HT_.out (ba_ 17 63) ?_; refine sk_ 6 18 HT_.out (ba_ 17 127) ?_; refine sk_ 7 19 HT_.out (ba_ 17 255) ?_; refine sk_ 8 20 HT_.out (ba_ 17 511) ?_; refine sk_ 9 21 HT_.out (ba_ 17 1023) ?_; refine sk_ 10 22 HT_.out (ba_ 17 2047) ?_; refine sk_ 11 23 HT_.out (ba_ 17 4095) ?_; refine sk_ 12 24 HT_.out (ba_ 17 8191) ?_; refine sk_ 13 25 HT_.out (ba_ 17 16383) ?_; refine sk_ 14 26 HT_.out (ba_ 17 32767) ?_; refine sk_ 15 27 HT_.out (ba_ 17 65535) ?_; refine pu_ 16 28 HT_.out (ba_ 17 131071) ?_; refine done_ (done_of HT_.out kr_) ?_
     go_wp2; go_ret; exact ⟨rs_, below_step HW.out (bg_ GE.out)⟩
    | true =>
     rw [hfm] at HFm
     by_cases c10 : x > 0
     ·
      have c10b0 : decide (0 < x) = true := decide_eq_true c10
      have hw1 : wrap64 (x - 1) = x - 1 := by
       have h1 := HA.out; have h2 := HL.out; unfold wrap64
       omega
      have PP : Aside0 (0 ≤ wrap64 (x - 1)) := ⟨by omega⟩
      have QQ : Aside0 (wrap64 (x - 1) < (l0.length : Int)) := ⟨by have := C3.out; omega⟩
      have HCm := Aside0.mk (impl_LotsOk.cmp_ (rd_T37 l0 (wrap64 (x - 1))) (rd_T37 l0 x))
      have HS2 : Aside0 (impl_LotsOk.chk l0 ((l0.length - (x + 1)).toNat + 1) x.toNat = if 0 ≤ impl_LotsOk.cmp (rd_T37 l0 (wrap64 (x - 1))) (rd_T37 l0 x) then false else impl_LotsOk.chk l0 (l0.length - (x + 1)).toNat (x + 1).toNat) := ⟨by
       have h1 := HSt.out; rw [hfm, if_pos rfl, if_pos c10, ← hw1] at h1; exact h1⟩
      clear HSt hfm c10 hw1; generalize impl_LotsOk.cmp (rd_T37 l0 (wrap64 (x - 1))) (rd_T37 l0 x) = cc at HCm HS2
      by_cases c11 : cc ≥ 0
      ·
       have c11b0 : decide (0 ≤ cc) = true := decide_eq_true c11
       have hq : q0 = false := by
        have h2 := HS2.out; rw [if_pos c11] at h2; exact HKx.out.symm.trans h2
       obtain rfl : r = false := by
        have h1 := HQ.out; rw [hq] at h1; simpa using h1
       clear HQ HS2 hq c11; obtain ⟨ad2, e2, hx2_0, hx2_1, hx2_2, hx2_3, hx2_4⟩ := at_T37 HR1.out (wrap64 (x - 1)) PP.out QQ.out; have hw_4 := hx2_4; have hw_3 := hx2_3; have hw_2 := hx2_2; have hw_1 := hx2_1; have hw_0 := hx2_0; obtain rfl : ad = ad2 := (by injection e2)
       replace hx2_0 := (HB.out.cell (World.block_lt_of_cell? w1 _ hx2_0)).trans hx2_0; replace hx2_1 := (HB.out.cell (World.block_lt_of_cell? w1 _ hx2_1)).trans hx2_1; replace hx2_2 := (HB.out.cell (World.block_lt_of_cell? w1 _ hx2_2)).trans hx2_2; replace hx2_3 := (HB.out.cell (World.block_lt_of_cell? w1 _ hx2_3)).trans hx2_3; replace hx2_4 := (HB.out.cell (World.block_lt_of_cell? w1 _ hx2_4)).trans hx2_4; have p2 := eq_true PP.out; have q2 := eq_true QQ.out
       refine start_ (n := 17) (S := fun w' => w'.cell? ⟨gb, 0, none⟩ = some (.int .i64 ((rd_T37 l0 x).f0)) ∧ w'.cell? ⟨gb, 1, none⟩ = some (.int .i64 ((rd_T37 l0 x).f1)) ∧ w'.cell? ⟨gb, 2, none⟩ = some (.int .i64 ((rd_T37 l0 x).f2)) ∧ w'.cell? ⟨gb, 3, none⟩ = some (.int .i64 ((rd_T37 l0 x).f3)) ∧ w'.cell? ⟨gb, 4, none⟩ = some (.int .i64 ((rd_T37 l0 x).f4)) ∧ w'.cell? ⟨w.heap.size, 0, none⟩ = some (.slice (some ad) l0.length c0) ∧ w'.cell? (ad.add ((wrap64 (x - 1)).toNat * 5)) = some (.int .i64 ((rd_T37 l0 (wrap64 (x - 1))).f0)) ∧ w'.cell? ⟨(ad.add ((wrap64 (x - 1)).toNat * 5)).block, (ad.add ((wrap64 (x - 1)).toNat * 5)).off + 1, none⟩ = some (.int .i64 ((rd_T37 l0 (wrap64 (x - 1))).f1)) ∧ w'.cell? ⟨(ad.add ((wrap64 (x - 1)).toNat * 5)).block, (ad.add ((wrap64 (x - 1)).toNat * 5)).off + 2, none⟩ = some (.int .i64 ((rd_T37 l0 (wrap64 (x - 1))).f2)) ∧ w'.cell? ⟨(ad.add ((wrap64 (x - 1)).toNat * 5)).block, (ad.add ((wrap64 (x - 1)).toNat * 5)).off + 3, none⟩ = some (.int .i64 ((rd_T37 l0 (wrap64 (x - 1))).f3)) ∧ w'.cell? ⟨(ad.add ((wrap64 (x - 1)).toNat * 5)).block, (ad.add ((wrap64 (x - 1)).toNat * 5)).off + 4, none⟩ = some (.int .i64 ((rd_T37 l0 (wrap64 (x - 1))).f4))) (ds := []) (ba_ 17 0) kr_ rfl rfl ⟨(blk_cell BK.out 0).trans rfl, (blk_cell BK.out 1).trans rfl, (blk_cell BK.out 2).trans rfl, (blk_cell BK.out 3).trans rfl, (blk_cell BK.out 4).trans rfl, ((HB.out.cell (World.block_lt_of_cell? w1 _ HX.out)).trans HX.out), ((HB.out.cell (World.block_lt_of_cell? w1 _ hw_0)).trans hw_0), ((HB.out.cell (World.block_lt_of_cell? w1 _ hw_1)).trans hw_1), ((HB.out.cell (World.block_lt_of_cell? w1 _ hw_2)).trans hw_2), ((HB.out.cell (World.block_lt_of_cell? w1 _ hw_3)).trans hw_3), ((HB.out.cell (World.block_lt_of_cell? w1 _ hw_4)).trans hw_4)⟩ (fun hHeld => ?_); refine with_tabW impl_LotsOk.tab4 impl_LotsOk.bits4 (fun HT_ HW_ => ?_)
       refine ta_ 0 12 HT_.out HW_.out hHeld (ba_ 17 1) ?_; refine one_ (i := 1) (N := some 13) (ba_ 17 3) rfl rfl (one_of HT_.out kr_) (by decide) (fun K hK => ?_)
       refine goes_ Try.func42 kr_ rfl #[.agg #[.int .i64 ((rd_T37 l0 x).f0), .int .i64 ((rd_T37 l0 x).f1), .int .i64 ((rd_T37 l0 x).f2), .int .i64 ((rd_T37 l0 x).f3), .int .i64 ((rd_T37 l0 x).f4)]] (by rfl) rfl rfl (by (try simp only [List.map_toArray, List.map_cons, List.map_nil]); first | done | rfl | (simp only [i64_w]; rfl)) ?_
       with_reducible refine (impl_lotForm.calls _ _ _ _ _ true _ HFm.out).mono ?_
       rintro e w7 ⟨rfl, hb⟩; refine ⟨_, rfl, ?_⟩
       have n_ := as2_ (blk_below (g := gb) (o := .cells #[.int .i64 ((rd_T37 l0 x).f0), .int .i64 ((rd_T37 l0 x).f1), .int .i64 ((rd_T37 l0 x).f2), .int .i64 ((rd_T37 l0 x).f3), .int .i64 ((rd_T37 l0 x).f4)] 37 (0, 0)) (pb_ BK.out) hb) (below_step (bg_ GE.out) hb); clear BK HB; obtain ⟨BK, HB⟩ := n_; clear hb; refine hK.out _ _ ⟨(blk_cell BK.out 0).trans rfl, (blk_cell BK.out 1).trans rfl, (blk_cell BK.out 2).trans rfl, (blk_cell BK.out 3).trans rfl, (blk_cell BK.out 4).trans rfl, ((HB.out.cell (World.block_lt_of_cell? w1 _ HX.out)).trans HX.out), ((HB.out.cell (World.block_lt_of_cell? w1 _ hw_0)).trans hw_0), ((HB.out.cell (World.block_lt_of_cell? w1 _ hw_1)).trans hw_1), ((HB.out.cell (World.block_lt_of_cell? w1 _ hw_2)).trans hw_2), ((HB.out.cell (World.block_lt_of_cell? w1 _ hw_3)).trans hw_3), ((HB.out.cell (World.block_lt_of_cell? w1 _ hw_4)).trans hw_4)⟩ (fun hHeld => ?_)
       clear hK K; refine norm_ (a' := ?_) ?_ ?_
       rotate_left
       ·
        show Act.put _ (some 13) _ = _
        exact sp_
       refine pu_ 2 14 HT_.out (ba_ 17 7) ?_; refine pu_ 3 15 HT_.out (ba_ 17 15) ?_; refine pu_ 4 16 HT_.out (ba_ 17 31) ?_; refine pu_ 5 17 HT_.out (ba_ 17 63) ?_; refine pu_ 6 18 HT_.out (ba_ 17 127) ?_; refine ta_ 7 19 HT_.out HW_.out hHeld (ba_ 17 255) ?_; refine pu_ 8 20 HT_.out (ba_ 17 511) ?_; refine pu_ 9 21 HT_.out (ba_ 17 1023) ?_; refine pu_ 10 22 HT_.out (ba_ 17 2047) ?_; refine ta_ 11 23 HT_.out HW_.out hHeld (ba_ 17 4095) ?_; refine ta_ 12 24 HT_.out HW_.out hHeld (ba_ 17 8191) ?_; refine one_ (i := 13) (N := some 25) (ba_ 17 16383) rfl rfl (one_of HT_.out kr_) (by decide) (fun K hK => ?_)
       refine goes_ Try.func43 kr_ rfl #[.agg #[.int .i64 ((rd_T37 l0 (wrap64 (x - 1))).f0), .int .i64 ((rd_T37 l0 (wrap64 (x - 1))).f1), .int .i64 ((rd_T37 l0 (wrap64 (x - 1))).f2), .int .i64 ((rd_T37 l0 (wrap64 (x - 1))).f3), .int .i64 ((rd_T37 l0 (wrap64 (x - 1))).f4)], .agg #[.int .i64 ((rd_T37 l0 x).f0), .int .i64 ((rd_T37 l0 x).f1), .int .i64 ((rd_T37 l0 x).f2), .int .i64 ((rd_T37 l0 x).f3), .int .i64 ((rd_T37 l0 x).f4)]] (by rfl) rfl rfl (by (try simp only [List.map_toArray, List.map_cons, List.map_nil]); first | done | rfl | (simp only [i64_w]; rfl)) ?_
       with_reducible refine (impl_lotBefore.calls 1 _ _ _ _ _ _ _ _ _ _ cc _ HCm.out).mono ?_
       rintro e w8 ⟨rfl, hb⟩; refine ⟨_, rfl, ?_⟩
       have n_ := as2_ (blk_below (g := gb) (o := .cells #[.int .i64 ((rd_T37 l0 x).f0), .int .i64 ((rd_T37 l0 x).f1), .int .i64 ((rd_T37 l0 x).f2), .int .i64 ((rd_T37 l0 x).f3), .int .i64 ((rd_T37 l0 x).f4)] 37 (0, 0)) (pb_ BK.out) hb) (below_step (bg_ GE.out) hb); clear BK HB; obtain ⟨BK, HB⟩ := n_; clear hb; refine hK.out _ _ ⟨(blk_cell BK.out 0).trans rfl, (blk_cell BK.out 1).trans rfl, (blk_cell BK.out 2).trans rfl, (blk_cell BK.out 3).trans rfl, (blk_cell BK.out 4).trans rfl, ((HB.out.cell (World.block_lt_of_cell? w1 _ HX.out)).trans HX.out), ((HB.out.cell (World.block_lt_of_cell? w1 _ hw_0)).trans hw_0), ((HB.out.cell (World.block_lt_of_cell? w1 _ hw_1)).trans hw_1), ((HB.out.cell (World.block_lt_of_cell? w1 _ hw_2)).trans hw_2), ((HB.out.cell (World.block_lt_of_cell? w1 _ hw_3)).trans hw_3), ((HB.out.cell (World.block_lt_of_cell? w1 _ hw_4)).trans hw_4)⟩ (fun hHeld => ?_)
       clear hK K; refine norm_ (a' := ?_) ?_ ?_
       rotate_left
       ·
        show Act.put _ (some 25) _ = _
        exact sp_
       refine pu_ 14 26 HT_.out (ba_ 17 32767) ?_; refine pu_ 15 27 HT_.out (ba_ 17 65535) ?_; refine pu_ 16 28 HT_.out (ba_ 17 131071) ?_; refine done_ (done_of HT_.out kr_) ?_
       go_wp2; go_ret; exact ⟨rs_, below_step HW.out (bg_ GE.out)⟩
      ·
       have c11b0 : decide (0 ≤ cc) = false := decide_eq_false c11
       have NX : Aside0 (impl_LotsOk.chk l0 (l0.length - (x + 1)).toNat (x + 1).toNat = q0) := ⟨by
        have h2 := HS2.out; rw [if_neg c11] at h2; exact h2.symm.trans HKx.out⟩
       clear HS2 c11; obtain ⟨ad2, e2, hx2_0, hx2_1, hx2_2, hx2_3, hx2_4⟩ := at_T37 HR1.out (wrap64 (x - 1)) PP.out QQ.out; have hw_4 := hx2_4; have hw_3 := hx2_3; have hw_2 := hx2_2; have hw_1 := hx2_1; have hw_0 := hx2_0; obtain rfl : ad = ad2 := (by injection e2)
       replace hx2_0 := (HB.out.cell (World.block_lt_of_cell? w1 _ hx2_0)).trans hx2_0; replace hx2_1 := (HB.out.cell (World.block_lt_of_cell? w1 _ hx2_1)).trans hx2_1; replace hx2_2 := (HB.out.cell (World.block_lt_of_cell? w1 _ hx2_2)).trans hx2_2; replace hx2_3 := (HB.out.cell (World.block_lt_of_cell? w1 _ hx2_3)).trans hx2_3; replace hx2_4 := (HB.out.cell (World.block_lt_of_cell? w1 _ hx2_4)).trans hx2_4; have p2 := eq_true PP.out; have q2 := eq_true QQ.out
       refine start_ (n := 17) (S := fun w' => w'.cell? ⟨gb, 0, none⟩ = some (.int .i64 ((rd_T37 l0 x).f0)) ∧ w'.cell? ⟨gb, 1, none⟩ = some (.int .i64 ((rd_T37 l0 x).f1)) ∧ w'.cell? ⟨gb, 2, none⟩ = some (.int .i64 ((rd_T37 l0 x).f2)) ∧ w'.cell? ⟨gb, 3, none⟩ = some (.int .i64 ((rd_T37 l0 x).f3)) ∧ w'.cell? ⟨gb, 4, none⟩ = some (.int .i64 ((rd_T37 l0 x).f4)) ∧ w'.cell? ⟨w.heap.size, 0, none⟩ = some (.slice (some ad) l0.length c0) ∧ w'.cell? (ad.add ((wrap64 (x - 1)).toNat * 5)) = some (.int .i64 ((rd_T37 l0 (wrap64 (x - 1))).f0)) ∧ w'.cell? ⟨(ad.add ((wrap64 (x - 1)).toNat * 5)).block, (ad.add ((wrap64 (x - 1)).toNat * 5)).off + 1, none⟩ = some (.int .i64 ((rd_T37 l0 (wrap64 (x - 1))).f1)) ∧ w'.cell? ⟨(ad.add ((wrap64 (x - 1)).toNat * 5)).block, (ad.add ((wrap64 (x - 1)).toNat * 5)).off + 2, none⟩ = some (.int .i64 ((rd_T37 l0 (wrap64 (x - 1))).f2)) ∧ w'.cell? ⟨(ad.add ((wrap64 (x - 1)).toNat * 5)).block, (ad.add ((wrap64 (x - 1)).toNat * 5)).off + 3, none⟩ = some (.int .i64 ((rd_T37 l0 (wrap64 (x - 1))).f3)) ∧ w'.cell? ⟨(ad.add ((wrap64 (x - 1)).toNat * 5)).block, (ad.add ((wrap64 (x - 1)).toNat * 5)).off + 4, none⟩ = some (.int .i64 ((rd_T37 l0 (wrap64 (x - 1))).f4))) (ds := []) (ba_ 17 0) kr_ rfl rfl ⟨(blk_cell BK.out 0).trans rfl, (blk_cell BK.out 1).trans rfl, (blk_cell BK.out 2).trans rfl, (blk_cell BK.out 3).trans rfl, (blk_cell BK.out 4).trans rfl, ((HB.out.cell (World.block_lt_of_cell? w1 _ HX.out)).trans HX.out), ((HB.out.cell (World.block_lt_of_cell? w1 _ hw_0)).trans hw_0), ((HB.out.cell (World.block_lt_of_cell? w1 _ hw_1)).trans hw_1), ((HB.out.cell (World.block_lt_of_cell? w1 _ hw_2)).trans hw_2), ((HB.out.cell (World.block_lt_of_cell? w1 _ hw_3)).trans hw_3), ((HB.out.cell (World.block_lt_of_cell? w1 _ hw_4)).trans hw_4)⟩ (fun hHeld => ?_); refine with_tabW impl_LotsOk.tab4 impl_LotsOk.bits4 (fun HT_ HW_ => ?_)
       refine ta_ 0 12 HT_.out HW_.out hHeld (ba_ 17 1) ?_; refine one_ (i := 1) (N := some 13) (ba_ 17 3) rfl rfl (one_of HT_.out kr_) (by decide) (fun K hK => ?_)
       refine goes_ Try.func42 kr_ rfl #[.agg #[.int .i64 ((rd_T37 l0 x).f0), .int .i64 ((rd_T37 l0 x).f1), .int .i64 ((rd_T37 l0 x).f2), .int .i64 ((rd_T37 l0 x).f3), .int .i64 ((rd_T37 l0 x).f4)]] (by rfl) rfl rfl (by (try simp only [List.map_toArray, List.map_cons, List.map_nil]); first | done | rfl | (simp only [i64_w]; rfl)) ?_
       with_reducible refine (impl_lotForm.calls _ _ _ _ _ true _ HFm.out).mono ?_
       rintro e w7 ⟨rfl, hb⟩; refine ⟨_, rfl, ?_⟩
       have n_ := as2_ (blk_below (g := gb) (o := .cells #[.int .i64 ((rd_T37 l0 x).f0), .int .i64 ((rd_T37 l0 x).f1), .int .i64 ((rd_T37 l0 x).f2), .int .i64 ((rd_T37 l0 x).f3), .int .i64 ((rd_T37 l0 x).f4)] 37 (0, 0)) (pb_ BK.out) hb) (below_step (bg_ GE.out) hb); clear BK HB; obtain ⟨BK, HB⟩ := n_; clear hb; refine hK.out _ _ ⟨(blk_cell BK.out 0).trans rfl, (blk_cell BK.out 1).trans rfl, (blk_cell BK.out 2).trans rfl, (blk_cell BK.out 3).trans rfl, (blk_cell BK.out 4).trans rfl, ((HB.out.cell (World.block_lt_of_cell? w1 _ HX.out)).trans HX.out), ((HB.out.cell (World.block_lt_of_cell? w1 _ hw_0)).trans hw_0), ((HB.out.cell (World.block_lt_of_cell? w1 _ hw_1)).trans hw_1), ((HB.out.cell (World.block_lt_of_cell? w1 _ hw_2)).trans hw_2), ((HB.out.cell (World.block_lt_of_cell? w1 _ hw_3)).trans hw_3), ((HB.out.cell (World.block_lt_of_cell? w1 _ hw_4)).trans hw_4)⟩ (fun hHeld => ?_)
       clear hK K; refine norm_ (a' := ?_) ?_ ?_
       rotate_left
       ·
        show Act.put _ (some 13) _ = _
        exact sp_
       refine pu_ 2 14 HT_.out (ba_ 17 7) ?_; refine pu_ 3 15 HT_.out (ba_ 17 15) ?_; refine pu_ 4 16 HT_.out (ba_ 17 31) ?_; refine pu_ 5 17 HT_.out (ba_ 17 63) ?_; refine pu_ 6 18 HT_.out (ba_ 17 127) ?_; refine ta_ 7 19 HT_.out HW_.out hHeld (ba_ 17 255) ?_; refine pu_ 8 20 HT_.out (ba_ 17 511) ?_; refine pu_ 9 21 HT_.out (ba_ 17 1023) ?_; refine pu_ 10 22 HT_.out (ba_ 17 2047) ?_; refine ta_ 11 23 HT_.out HW_.out hHeld (ba_ 17 4095) ?_; refine ta_ 12 24 HT_.out HW_.out hHeld (ba_ 17 8191) ?_; refine one_ (i := 13) (N := some 25) (ba_ 17 16383) rfl rfl (one_of HT_.out kr_) (by decide) (fun K hK => ?_)
       refine goes_ Try.func43 kr_ rfl #[.agg #[.int .i64 ((rd_T37 l0 (wrap64 (x - 1))).f0), .int .i64 ((rd_T37 l0 (wrap64 (x - 1))).f1), .int .i64 ((rd_T37 l0 (wrap64 (x - 1))).f2), .int .i64 ((rd_T37 l0 (wrap64 (x - 1))).f3), .int .i64 ((rd_T37 l0 (wrap64 (x - 1))).f4)], .agg #[.int .i64 ((rd_T37 l0 x).f0), .int .i64 ((rd_T37 l0 x).f1), .int .i64 ((rd_T37 l0 x).f2), .int .i64 ((rd_T37 l0 x).f3), .int .i64 ((rd_T37 l0 x).f4)]] (by rfl) rfl rfl (by (try simp only [List.map_toArray, List.map_cons, List.map_nil]); first | done | rfl | (simp only [i64_w]; rfl)) ?_
       with_reducible refine (impl_lotBefore.calls 1 _ _ _ _ _ _ _ _ _ _ cc _ HCm.out).mono ?_
       rintro e w8 ⟨rfl, hb⟩; refine ⟨_, rfl, ?_⟩
       have n_ := as2_ (blk_below (g := gb) (o := .cells #[.int .i64 ((rd_T37 l0 x).f0), .int .i64 ((rd_T37 l0 x).f1), .int .i64 ((rd_T37 l0 x).f2), .int .i64 ((rd_T37 l0 x).f3), .int .i64 ((rd_T37 l0 x).f4)] 37 (0, 0)) (pb_ BK.out) hb) (below_step (bg_ GE.out) hb); clear BK HB; obtain ⟨BK, HB⟩ := n_; clear hb; refine hK.out _ _ ⟨(blk_cell BK.out 0).trans rfl, (blk_cell BK.out 1).trans rfl, (blk_cell BK.out 2).trans rfl, (blk_cell BK.out 3).trans rfl, (blk_cell BK.out 4).trans rfl, ((HB.out.cell (World.block_lt_of_cell? w1 _ HX.out)).trans HX.out), ((HB.out.cell (World.block_lt_of_cell? w1 _ hw_0)).trans hw_0), ((HB.out.cell (World.block_lt_of_cell? w1 _ hw_1)).trans hw_1), ((HB.out.cell (World.block_lt_of_cell? w1 _ hw_2)).trans hw_2), ((HB.out.cell (World.block_lt_of_cell? w1 _ hw_3)).trans hw_3), ((HB.out.cell (World.block_lt_of_cell? w1 _ hw_4)).trans hw_4)⟩ (fun hHeld => ?_)
       clear hK K; refine norm_ (a' := ?_) ?_ ?_
       rotate_left
       ·
        show Act.put _ (some 25) _ = _
        exact sp_
       refine pu_ 14 26 HT_.out (ba_ 17 32767) ?_; refine pu_ 15 27 HT_.out (ba_ 17 65535) ?_; refine pu_ 16 28 HT_.out (ba_ 17 131071) ?_; refine done_ (done_of HT_.out kr_) ?_
       try go_wp2
       go_roundg (l0.length - (x + 1)).toNat
       case measure => have := HA.out; have := C3.out; omega
       case rel =>
        have h1 := HA.out; have h2 := C3.out; refine ⟨wrap64 (x + 1), (rs_), ⟨?_⟩, ⟨bg_ GE.out⟩⟩
        have hw : wrap64 (x + 1) = x + 1 := by
         have := HL.out; unfold wrap64
         omega
        rw [hw]
        exact ⟨by omega, by omega, rfl, NX.out⟩
     ·
      have c10b0 : decide (0 < x) = false := decide_eq_false c10
      have NX : Aside0 (impl_LotsOk.chk l0 (l0.length - (x + 1)).toNat (x + 1).toNat = q0) := ⟨by
       have h1 := HSt.out; rw [hfm, if_pos rfl, if_neg c10] at h1; exact h1.symm.trans HKx.out⟩
      clear HSt hfm c10; refine start_ (n := 17) (S := fun w' => w'.cell? ⟨gb, 0, none⟩ = some (.int .i64 ((rd_T37 l0 x).f0)) ∧ w'.cell? ⟨gb, 1, none⟩ = some (.int .i64 ((rd_T37 l0 x).f1)) ∧ w'.cell? ⟨gb, 2, none⟩ = some (.int .i64 ((rd_T37 l0 x).f2)) ∧ w'.cell? ⟨gb, 3, none⟩ = some (.int .i64 ((rd_T37 l0 x).f3)) ∧ w'.cell? ⟨gb, 4, none⟩ = some (.int .i64 ((rd_T37 l0 x).f4)) ∧ w'.cell? ⟨w.heap.size, 0, none⟩ = some (.slice (some ad) l0.length c0)) (ds := []) (ba_ 17 0) kr_ rfl rfl ⟨(blk_cell BK.out 0).trans rfl, (blk_cell BK.out 1).trans rfl, (blk_cell BK.out 2).trans rfl, (blk_cell BK.out 3).trans rfl, (blk_cell BK.out 4).trans rfl, ((HB.out.cell (World.block_lt_of_cell? w1 _ HX.out)).trans HX.out)⟩ (fun hHeld => ?_); refine with_tabW impl_LotsOk.tab4 impl_LotsOk.bits4 (fun HT_ HW_ => ?_)
      refine ta_ 0 12 HT_.out HW_.out hHeld (ba_ 17 1) ?_; refine one_ (i := 1) (N := some 13) (ba_ 17 3) rfl rfl (one_of HT_.out kr_) (by decide) (fun K hK => ?_)
      refine goes_ Try.func42 kr_ rfl #[.agg #[.int .i64 ((rd_T37 l0 x).f0), .int .i64 ((rd_T37 l0 x).f1), .int .i64 ((rd_T37 l0 x).f2), .int .i64 ((rd_T37 l0 x).f3), .int .i64 ((rd_T37 l0 x).f4)]] (by rfl) rfl rfl (by (try simp only [List.map_toArray, List.map_cons, List.map_nil]); first | done | rfl | (simp only [i64_w]; rfl)) ?_
      with_reducible refine (impl_lotForm.calls _ _ _ _ _ true _ HFm.out).mono ?_
      rintro e w7 ⟨rfl, hb⟩; refine ⟨_, rfl, ?_⟩
      have n_ := as2_ (blk_below (g := gb) (o := .cells #[.int .i64 ((rd_T37 l0 x).f0), .int .i64 ((rd_T37 l0 x).f1), .int .i64 ((rd_T37 l0 x).f2), .int .i64 ((rd_T37 l0 x).f3), .int .i64 ((rd_T37 l0 x).f4)] 37 (0, 0)) (pb_ BK.out) hb) (below_step (bg_ GE.out) hb); clear BK HB; obtain ⟨BK, HB⟩ := n_; clear hb; refine hK.out _ _ ⟨(blk_cell BK.out 0).trans rfl, (blk_cell BK.out 1).trans rfl, (blk_cell BK.out 2).trans rfl, (blk_cell BK.out 3).trans rfl, (blk_cell BK.out 4).trans rfl, ((HB.out.cell (World.block_lt_of_cell? w1 _ HX.out)).trans HX.out)⟩ (fun hHeld => ?_)
      clear hK K; refine norm_ (a' := ?_) ?_ ?_
      rotate_left
      ·
       show Act.put _ (some 13) _ = _
       exact sp_
      refine pu_ 2 14 HT_.out (ba_ 17 7) ?_; refine pu_ 3 15 HT_.out (ba_ 17 15) ?_; refine pu_ 4 16 HT_.out (ba_ 17 31) ?_; refine pu_ 5 17 HT_.out (ba_ 17 63) ?_; refine pu_ 6 18 HT_.out (ba_ 17 127) ?_; refine sk_ 7 19 HT_.out (ba_ 17 255) ?_; refine sk_ 8 20 HT_.out (ba_ 17 511) ?_; refine sk_ 9 21 HT_.out (ba_ 17 1023) ?_; refine sk_ 10 22 HT_.out (ba_ 17 2047) ?_; refine sk_ 11 23 HT_.out (ba_ 17 4095) ?_; refine sk_ 12 24 HT_.out (ba_ 17 8191) ?_; refine sk_ 13 25 HT_.out (ba_ 17 16383) ?_; refine sk_ 14 26 HT_.out (ba_ 17 32767) ?_; refine pu_ 15 27 HT_.out (ba_ 17 65535) ?_; refine pu_ 16 28 HT_.out (ba_ 17 131071) ?_; refine done_ (done_of HT_.out kr_) ?_
      try go_wp2
      go_roundg (l0.length - (x + 1)).toNat
      case measure => have := HA.out; have := C3.out; omega
      case rel =>
       have h1 := HA.out; have h2 := C3.out; refine ⟨wrap64 (x + 1), (rs_), ⟨?_⟩, ⟨bg_ GE.out⟩⟩
       have hw : wrap64 (x + 1) = x + 1 := by
        have := HL.out; unfold wrap64
        omega
       rw [hw]
       exact ⟨by omega, by omega, rfl, NX.out⟩
   ·
    have c3b0 : decide (x < (l0.length : Int)) = false := decide_eq_false c3
    have hq : q0 = true := by
     have h1 := HA.out; have e1 : (l0.length - x).toNat = 0 := by omega
     have h2 := h1.2.2.2; rw [e1] at h2; exact h2.symm
    have HQ2 : Aside0 (r = if (l0.length : Int) > 120 then false else !(l0.any (impl_LotsOk.over l0))) := ⟨by
     have h1 := HQ.out; rw [hq, if_pos rfl] at h1; exact h1⟩
    clear HQ hq c3; have hcb := (HB.out.cell (World.block_lt_of_cell? w1 _ HX.out)).trans HX.out
    by_cases c4 : (l0.length : Int) > 120
    ·
     have c4b0 : decide (120 < (l0.length : Int)) = true := decide_eq_true c4; have c4b1 : decide (120 < l0.length) = true := decide_eq_true (by omega)
     obtain rfl : r = false := by
      have h1 := HQ2.out; rw [if_pos c4] at h1; exact h1
     clear c4 HQ2; go_wp2; go_ret; exact ⟨rs_, below_step HW.out (bb_)⟩
    ·
     have c4b0 : decide (120 < (l0.length : Int)) = false := decide_eq_false c4; have c4b1 : decide (120 < l0.length) = false := decide_eq_false (by omega)
     obtain rfl : r = !(l0.any (impl_LotsOk.over l0)) := by
      have h1 := HQ2.out; rw [if_neg c4] at h1; exact h1
     clear c4 HQ2; go_wp2_with (first | (go_at_call 44; refine (ContainsFunc_st37.calls A0 c0 l0 45 #[.pointer (some ⟨w.heap.size, 0, none⟩)] (impl_LotsOk.over l0) _ (Kd.C_below HR1.out HB.out) HC0.out (impl_LotsOk.pred ((HB.out.cell (World.block_lt_of_cell? w1 _ HX.out)).trans HX.out) (Kd.C_below HR1.out HB.out) HC0.out HL.out)).mono ?_; rintro e w9 ⟨rfl, hb⟩; replace HB := Aside0.mk (below_step HB.out hb); clear hb))
     go_ret; exact ⟨rs_, below_step HW.out (bb_)⟩
 ·
  rw [if_neg hl] at h; cases h
end Go.Proofs.Ytomanpmffjkkgaa.P
namespace Go.Proofs.Ytomanpmffjkkgaa.P
open Go.RowKit Go.Proofs.YtomanpmffjkkgaaW.PrintWords Go.Proofs.YtomanpmffjkkgaaW.PrintLast Go.Proofs.YtomanpmffjkkgaaW.PrintMore
attribute [local go_sem] max2_int min2_int max_two min_two max_three min_three max_four min_four   -- for this text's walks alone
set_option linter.unusedVariables false
set_option linter.unusedSimpArgs false
mutual
def spec_LotsOk.l0 : Nat → List (S37) → Int → Int → Int → Option (Bool)
 | 0, _, _, _, _ => none
 | k + 1, x0, x3, x4, x5 => if x5 < (x0.length : Int) then (if 0 ≤ x5 then ((spec_l5Right.f ((rd_T37 x0 x5).f0) ((rd_T37 x0 x5).f1) ((rd_T37 x0 x5).f2) ((rd_T37 x0 x5).f3) ((rd_T37 x0 x5).f4)).bind fun t115 => (if t115 = true then (if x5 > 0 then (if 0 ≤ (wrap64 (x5 - 1)) then (if (wrap64 (x5 - 1)) < (x0.length : Int) then ((spec_l5Before.f ((rd_T37 x0 (wrap64 (x5 - 1))).f0) ((rd_T37 x0 (wrap64 (x5 - 1))).f1) ((rd_T37 x0 (wrap64 (x5 - 1))).f2) ((rd_T37 x0 (wrap64 (x5 - 1))).f3) ((rd_T37 x0 (wrap64 (x5 - 1))).f4) ((rd_T37 x0 x5).f0) ((rd_T37 x0 x5).f1) ((rd_T37 x0 x5).f2) ((rd_T37 x0 x5).f3) ((rd_T37 x0 x5).f4)).bind fun t117 => (spec_LotsOk.j1 k x0 x3 x4 x5 (!t117) ((rd_T37 x0 x5).f0) ((rd_T37 x0 x5).f1) ((rd_T37 x0 x5).f2) ((rd_T37 x0 x5).f3) ((rd_T37 x0 x5).f4))) else (none)) else (none)) else (spec_LotsOk.j1 k x0 x3 x4 x5 false ((rd_T37 x0 x5).f0) ((rd_T37 x0 x5).f1) ((rd_T37 x0 x5).f2) ((rd_T37 x0 x5).f3) ((rd_T37 x0 x5).f4))) else (spec_LotsOk.j1 k x0 x3 x4 x5 true ((rd_T37 x0 x5).f0) ((rd_T37 x0 x5).f1) ((rd_T37 x0 x5).f2) ((rd_T37 x0 x5).f3) ((rd_T37 x0 x5).f4)))) else (none)) else (some true)
def spec_LotsOk.j1 : Nat → List (S37) → Int → Int → Int → Bool → Int → Int → Int → Int → Int → Option (Bool)
 | 0, _, _, _, _, _, _, _, _, _, _ => none
 | k + 1, x0, x3, x4, x5, x36, x115000, x115001, x115002, x115003, x115004 => if x36 = true then (some false) else (if x5 = 0 then (spec_LotsOk.j2 k x0 x3 x4 x5 true x115000 x115001 x115002 x115003 x115004) else (if 0 ≤ (wrap64 (x5 - 1)) then (if (wrap64 (x5 - 1)) < (x0.length : Int) then (if x115000 = ((rd_T37 x0 (wrap64 (x5 - 1))).f0) then (spec_LotsOk.j2 k x0 x3 x4 x5 (x115001 != ((rd_T37 x0 (wrap64 (x5 - 1))).f1)) x115000 x115001 x115002 x115003 x115004) else (spec_LotsOk.j2 k x0 x3 x4 x5 true x115000 x115001 x115002 x115003 x115004)) else (none)) else (none)))
def spec_LotsOk.j2 : Nat → List (S37) → Int → Int → Int → Bool → Int → Int → Int → Int → Int → Option (Bool)
 | 0, _, _, _, _, _, _, _, _, _, _ => none
 | k + 1, x0, x3, x4, x5, x60, x115000, x115001, x115002, x115003, x115004 => if x60 = true then (spec_LotsOk.j3 k x0 0 0 x5 x115000 x115001 x115002 x115003 x115004) else (spec_LotsOk.j3 k x0 x3 x4 x5 x115000 x115001 x115002 x115003 x115004)
def spec_LotsOk.j3 : Nat → List (S37) → Int → Int → Int → Int → Int → Int → Int → Int → Option (Bool)
 | 0, _, _, _, _, _, _, _, _, _ => none
 | k + 1, x0, x3, x4, x5, x115000, x115001, x115002, x115003, x115004 => (spec_AmountOk.f (wrap64 (x3 + x115003))).bind fun t120 => (if t120 = true then ((spec_AmountOk.f (wrap64 (x4 + x115004))).bind fun t121 => (if t121 = true then (spec_LotsOk.l0 k x0 (wrap64 (x3 + x115003)) (wrap64 (x4 + x115004)) (wrap64 (x5 + 1))) else (some false))) else (some false))
end
def spec_LotsOk.f (k : Nat) (l0 : List (S37)) : Option (Bool) := if (l0.length : Int) > 120 then (some false) else (spec_LotsOk.l0 k l0 0 0 0)
def spec_LotsOk.T8 : Bool × List (List Nat × List Nat) := (true, [([], []), ([0], [0]), ([1], [1]), ([2, 1], [2]), ([3], [3]), ([4, 3], [3, 4]), ([5, 3, 3], [3, 5]), ([6], [6]), ([6], [6]), ([8, 6], [6, 8]), ([7, 9, 6], [6, 7, 9]), ([10, 6], [6, 10]), ([6], [6]), ([11, 12, 6, 6], [6, 11, 12]), ([13, 6], [6, 13]), ([6, 14, 3], [3, 6, 14]), ([3, 15], [3, 15])])
def spec_LotsOk.B8 : List Nat := [0, 1, 3, 7, 15, 31, 63, 127, 127, 383, 1023, 2047, 127, 8191, 16383, 32767, 65535]
theorem spec_LotsOk.tab8 : rtab .any (opsOf Try.f15 8) = spec_LotsOk.T8 := by kernel_rfl
theorem spec_LotsOk.bits8 : waitsOk spec_LotsOk.T8.2 spec_LotsOk.B8 = true := by kernel_rfl
def spec_LotsOk.T10 : Bool × List (List Nat × List Nat) := (true, [([], []), ([0], [0]), ([1], [1]), ([2], [2]), ([3, 2], [2, 3]), ([2], [2]), ([2], [2]), ([6, 2], [2, 6]), ([5, 7, 2], [2, 5, 7]), ([8, 2], [2, 8]), ([9, 2], [2, 9]), ([4, 10, 2], [2, 4, 10]), ([2, 11], [2, 11]), ([12, 2], [12]), ([13], [13]), ([14, 13], [13, 14]), ([13], [13]), ([13], [13]), ([17, 13], [13, 17]), ([16, 18, 13], [13, 16, 18]), ([19, 13], [13, 19]), ([20, 13], [13, 20]), ([15, 21, 13], [13, 15, 21]), ([13, 22], [13, 22])])
def spec_LotsOk.B10 : List Nat := [0, 1, 3, 7, 15, 7, 7, 71, 231, 487, 999, 2047, 4095, 8191, 16383, 32767, 16383, 16383, 147455, 475135, 999423, 2047999, 4194303, 8388607]
theorem spec_LotsOk.tab10 : rtab .any (opsOf Try.f15 10) = spec_LotsOk.T10 := by kernel_rfl
theorem spec_LotsOk.bits10 : waitsOk spec_LotsOk.T10.2 spec_LotsOk.B10 = true := by kernel_rfl
set_option maxHeartbeats 8000000 in
set_option maxRecDepth 100000 in
theorem spec_LotsOk.calls (k : Nat) (A0 : Option Addr) (c0 : Nat) (l0 : List (S37)) (r : Bool) (w : World) (hr0 : Kd.C k37 w A0 l0.length l0) (hc0 : l0.length ≤ c0) (h : spec_LotsOk.f k l0 = some r) :
 Calls Try.prog 15 #[.slice A0 l0.length c0] w fun e w' => e = .returned (.bool r) ∧ Below w.heap.size w w' := by
 have hu37 := Try.underlying37; have HR0 := Aside0.mk hr0; have HC0 := Aside0.mk hc0; clear hr0 hc0; have HB := Aside0.mk (Below.refl w.heap.size w); have H : (if (l0.length : Int) > 120 then (some false) else (spec_LotsOk.l0 k l0 0 0 0)) = some r := h; clear h
 by_cases c2 : (l0.length : Int) > 120
 ·
  rw [if_pos c2] at H; have c2b0 : decide (120 < (l0.length : Int)) = true := decide_eq_true c2; have c2b1 : decide (120 < l0.length) = true := decide_eq_true (by omega)
  clear c2; obtain rfl := Option.some.inj H; go_enter Try.func15, Try.ntmps15; go_wp2; go_ret; exact ⟨er_, bb_⟩
 ·
  rw [if_neg c2] at H; have c2b0 : decide (120 < (l0.length : Int)) = false := decide_eq_false c2; have c2b1 : decide (120 < l0.length) = false := decide_eq_false (by omega)
  clear c2; have H' := Aside0.mk H; clear H; go_enter Try.func15, Try.ntmps15; go_wp2; go_loopg [3, 4, 5] k (fun kq v3 v4 v5 w' => ∃ (x3_1 : Int) (x4_1 : Int) (x5_1 : Int), v3 = .int .i64 x3_1 ∧ v4 = .int .i64 x4_1 ∧ v5 = .int .i64 x5_1 ∧ Aside0 (spec_LotsOk.l0 kq l0 x3_1 x4_1 x5_1 = some r) ∧ Aside0 (kq ≤ k) ∧ Aside0 (Below w.heap.size w w'))
  case atStart => exact ⟨(0), (0), (0), (rs_), (rs_), (rs_), H', ⟨Nat.le_refl _⟩, ⟨bb_⟩⟩
  case round =>
   clear H'; (try clear c1); (try clear c2b0); (try clear c2b1); (try clear p2); obtain ⟨x3_1, x4_1, x5_1, rfl, rfl, rfl, HA, HK1, HB⟩ := hrel
   cases gk with
   | zero => exact absurd HA.out (by simp [spec_LotsOk.l0])
   | succ k1 =>
    have H := HA.out; clear HA; simp only [spec_LotsOk.l0] at H
    by_cases c3 : x5_1 < (l0.length : Int)
    ·
     rw [if_pos c3] at H; have c3b0 : decide (x5_1 < (l0.length : Int)) = true := decide_eq_true c3; clear c3
     by_cases c4 : 0 ≤ x5_1
     ·
      rw [if_pos c4] at H; have c4b0 : decide (0 ≤ x5_1) = true := decide_eq_true c4; clear c4; have HC5 := Aside0.mk H; clear H; have p113 : 0 ≤ (x5_1 : Int) := od_; have q113 : x5_1 < (l0.length : Int) := od_; obtain ⟨ad113, e113, hx113_0, hx113_1, hx113_2, hx113_3, hx113_4⟩ := at_T37 HR0.out x5_1 p113 q113; cases e113; replace hx113_0 := cl_ HB.out hx113_0; replace hx113_1 := cl_ HB.out hx113_1; replace hx113_2 := cl_ HB.out hx113_2; replace hx113_3 := cl_ HB.out hx113_3; replace hx113_4 := cl_ HB.out hx113_4; replace p113 := eq_true p113; replace q113 := eq_true q113; go_upto_region 8 with (first | ((with_reducible refine gate_dst (N := 6) rfl ?_); refine be_ 6 (cs := #[.int .i64 0, .int .i64 0, .int .i64 0, .int .i64 0, .int .i64 0]) (t := 37) ?_; intro gb114 hg w6 hbox hb; have n_ := as4_ (below_step (bb_) hb) (hbox) ((gs_ hg : w.heap.size ≤ gb114)) ((gs_ hg : w.heap.size ≤ gb114)); clear HB; obtain ⟨HB, BK114, GW114, GE114⟩ := n_; clear hb hbox hg; obtain ⟨hcz7_0, hcz7_1, hcz7_2, hcz7_3, hcz7_4, hfz7_0, hfz7_1, hfz7_2, hfz7_3, hfz7_4⟩ := ce5_ BK114.out))
      (try simp only [Act.put, List.setIfInBounds_toArray, List.set_cons_zero, List.set_cons_succ])
      go_cut [36] (fun v36 wc => ∃ (kq : Nat) (x36_4 : Bool), v36 = .bool x36_4 ∧ Aside0 (spec_LotsOk.j1 kq l0 x3_1 x4_1 x5_1 x36_4 ((rd_T37 l0 x5_1).f0) ((rd_T37 l0 x5_1).f1) ((rd_T37 l0 x5_1).f2) ((rd_T37 l0 x5_1).f3) ((rd_T37 l0 x5_1).f4) = some r) ∧ Aside0 (kq ≤ k1) ∧ Aside0 (wc.heap[gb114]? = some (.cells #[.int .i64 ((rd_T37 l0 x5_1).f0), .int .i64 ((rd_T37 l0 x5_1).f1), .int .i64 ((rd_T37 l0 x5_1).f2), .int .i64 ((rd_T37 l0 x5_1).f3), .int .i64 ((rd_T37 l0 x5_1).f4)] 37 (0, 0))) ∧ Aside0 (Below w.heap.size w wc))
      case first =>
       have H := HC5.out; clear HC5; replace H := Option.bind_eq_some_iff.mp H; obtain ⟨t115, A80, H⟩ := H; have A8 := Aside0.mk A80; clear A80
       by_cases c9 : t115 = true
       ·
        subst c9; replace H := Eq.trans (if_pos rfl).symm H
        by_cases c10 : x5_1 > 0
        ·
         rw [if_pos c10] at H; have c10b0 : decide (0 < x5_1) = true := decide_eq_true c10; clear c10; (first | rw [c10b0] | (simp only [i64_w, i32_w]; rw [c10b0]) | skip)
         obtain ⟨ji11, hji11⟩ : ∃ j_ : Int, (wrap64 (x5_1 - 1)) = j_ := ⟨_, rfl⟩; replace H : (if 0 ≤ (ji11) then (if (ji11) < (l0.length : Int) then ((spec_l5Before.f ((rd_T37 l0 (ji11)).f0) ((rd_T37 l0 (ji11)).f1) ((rd_T37 l0 (ji11)).f2) ((rd_T37 l0 (ji11)).f3) ((rd_T37 l0 (ji11)).f4) ((rd_T37 l0 x5_1).f0) ((rd_T37 l0 x5_1).f1) ((rd_T37 l0 x5_1).f2) ((rd_T37 l0 x5_1).f3) ((rd_T37 l0 x5_1).f4)).bind fun t117 => (spec_LotsOk.j1 k1 l0 x3_1 x4_1 x5_1 (!t117) ((rd_T37 l0 x5_1).f0) ((rd_T37 l0 x5_1).f1) ((rd_T37 l0 x5_1).f2) ((rd_T37 l0 x5_1).f3) ((rd_T37 l0 x5_1).f4))) else (none)) else (none)) = some r := rj_ hji11 H; (try rw [hji11] at A8)
         have hji11w : (IntKind.i64.wrap (x5_1 - 1)) = ji11 := (i64_w _).trans hji11
         by_cases c12 : 0 ≤ (ji11)
         ·
          rw [if_pos c12] at H; have c12b0 : decide (0 ≤ (ji11)) = true := decide_eq_true c12; clear c12
          by_cases c13 : (ji11) < (l0.length : Int)
          ·
           rw [if_pos c13] at H; have c13b0 : decide ((ji11) < (l0.length : Int)) = true := decide_eq_true c13; clear c13; replace H := Option.bind_eq_some_iff.mp H; obtain ⟨t117, A140, H⟩ := H; have A14 := Aside0.mk A140; clear A140; have H' := Aside0.mk H; clear H; try go_wp2
           have n0_ : Aside0 ((((((w6.setCell ⟨gb114, 0, none⟩ (.int .i64 ((rd_T37 l0 x5_1).f0))).setCell ⟨gb114, 1, none⟩ (.int .i64 ((rd_T37 l0 x5_1).f1))).setCell ⟨gb114, 2, none⟩ (.int .i64 ((rd_T37 l0 x5_1).f2))).setCell ⟨gb114, 3, none⟩ (.int .i64 ((rd_T37 l0 x5_1).f3))).setCell ⟨gb114, 4, none⟩ (.int .i64 ((rd_T37 l0 x5_1).f4))).heap[gb114]? = some (.cells #[.int .i64 ((rd_T37 l0 x5_1).f0), .int .i64 ((rd_T37 l0 x5_1).f1), .int .i64 ((rd_T37 l0 x5_1).f2), .int .i64 ((rd_T37 l0 x5_1).f3), .int .i64 ((rd_T37 l0 x5_1).f4)] 37 (0, 0))) := ⟨by (with_reducible repeat (first | refine blk_drewN ?_ _ | refine blk_drew ?_ | refine blk_alloc ?_ _)); refine blk_put (cs := #[.int .i64 ((rd_T37 l0 x5_1).f0), .int .i64 ((rd_T37 l0 x5_1).f1), .int .i64 ((rd_T37 l0 x5_1).f2), .int .i64 ((rd_T37 l0 x5_1).f3), .int .i64 0]) ?_ 4 _ rfl; (with_reducible repeat (first | refine blk_drewN ?_ _ | refine blk_drew ?_ | refine blk_alloc ?_ _)); refine blk_put (cs := #[.int .i64 ((rd_T37 l0 x5_1).f0), .int .i64 ((rd_T37 l0 x5_1).f1), .int .i64 ((rd_T37 l0 x5_1).f2), .int .i64 0, .int .i64 0]) ?_ 3 _ rfl; (with_reducible repeat (first | refine blk_drewN ?_ _ | refine blk_drew ?_ | refine blk_alloc ?_ _)); refine blk_put (cs := #[.int .i64 ((rd_T37 l0 x5_1).f0), .int .i64 ((rd_T37 l0 x5_1).f1), .int .i64 0, .int .i64 0, .int .i64 0]) ?_ 2 _ rfl; (with_reducible repeat (first | refine blk_drewN ?_ _ | refine blk_drew ?_ | refine blk_alloc ?_ _)); refine blk_put (cs := #[.int .i64 ((rd_T37 l0 x5_1).f0), .int .i64 0, .int .i64 0, .int .i64 0, .int .i64 0]) ?_ 1 _ rfl; (with_reducible repeat (first | refine blk_drewN ?_ _ | refine blk_drew ?_ | refine blk_alloc ?_ _)); refine blk_put (cs := #[.int .i64 0, .int .i64 0, .int .i64 0, .int .i64 0, .int .i64 0]) ?_ 0 _ rfl; (with_reducible repeat (first | refine blk_drewN ?_ _ | refine blk_drew ?_ | refine blk_alloc ?_ _)); exact BK114.out⟩
           have n1_ : Aside0 (Below w.heap.size w (((((w6.setCell ⟨gb114, 0, none⟩ (.int .i64 ((rd_T37 l0 x5_1).f0))).setCell ⟨gb114, 1, none⟩ (.int .i64 ((rd_T37 l0 x5_1).f1))).setCell ⟨gb114, 2, none⟩ (.int .i64 ((rd_T37 l0 x5_1).f2))).setCell ⟨gb114, 3, none⟩ (.int .i64 ((rd_T37 l0 x5_1).f3))).setCell ⟨gb114, 4, none⟩ (.int .i64 ((rd_T37 l0 x5_1).f4)))) := ⟨bg_ GE114.out⟩; (try clear BK114); (try clear HB); generalize (((((w6.setCell ⟨gb114, 0, none⟩ (.int .i64 ((rd_T37 l0 x5_1).f0))).setCell ⟨gb114, 1, none⟩ (.int .i64 ((rd_T37 l0 x5_1).f1))).setCell ⟨gb114, 2, none⟩ (.int .i64 ((rd_T37 l0 x5_1).f2))).setCell ⟨gb114, 3, none⟩ (.int .i64 ((rd_T37 l0 x5_1).f3))).setCell ⟨gb114, 4, none⟩ (.int .i64 ((rd_T37 l0 x5_1).f4))) = w15 at n0_ n1_ ⊢
           have BK114 := n0_; have HB := n1_; clear n0_ n1_; have n_ := as2_ (blk_drew BK114.out) (below_drew1 HB.out); clear BK114 HB; obtain ⟨BK114, HB⟩ := n_; have p116 : 0 ≤ ((ji11) : Int) := od_; have q116 : (ji11) < (l0.length : Int) := od_; obtain ⟨ad116, e116, hx116_0, hx116_1, hx116_2, hx116_3, hx116_4⟩ := at_T37 HR0.out (ji11) p116 q116; have hw116_4 := hx116_4; have hw116_3 := hx116_3; have hw116_2 := hx116_2; have hw116_1 := hx116_1; have hw116_0 := hx116_0; obtain rfl : ad113 = ad116 := (by injection e116)
           replace hx116_0 := cl_ HB.out hx116_0; replace hx116_1 := cl_ HB.out hx116_1; replace hx116_2 := cl_ HB.out hx116_2; replace hx116_3 := cl_ HB.out hx116_3; replace hx116_4 := cl_ HB.out hx116_4; replace p116 := eq_true p116; replace q116 := eq_true q116
           refine start_ (n := 17) (S := fun w' => w'.cell? ⟨gb114, 0, none⟩ = some (.int .i64 ((rd_T37 l0 x5_1).f0)) ∧ w'.cell? ⟨gb114, 1, none⟩ = some (.int .i64 ((rd_T37 l0 x5_1).f1)) ∧ w'.cell? ⟨gb114, 2, none⟩ = some (.int .i64 ((rd_T37 l0 x5_1).f2)) ∧ w'.cell? ⟨gb114, 3, none⟩ = some (.int .i64 ((rd_T37 l0 x5_1).f3)) ∧ w'.cell? ⟨gb114, 4, none⟩ = some (.int .i64 ((rd_T37 l0 x5_1).f4)) ∧ w'.cell? (ad113.add (((ji11)).toNat * 5)) = some (.int .i64 ((rd_T37 l0 (ji11)).f0)) ∧ w'.cell? ⟨(ad113.add (((ji11)).toNat * 5)).block, (ad113.add (((ji11)).toNat * 5)).off + 1, none⟩ = some (.int .i64 ((rd_T37 l0 (ji11)).f1)) ∧ w'.cell? ⟨(ad113.add (((ji11)).toNat * 5)).block, (ad113.add (((ji11)).toNat * 5)).off + 2, none⟩ = some (.int .i64 ((rd_T37 l0 (ji11)).f2)) ∧ w'.cell? ⟨(ad113.add (((ji11)).toNat * 5)).block, (ad113.add (((ji11)).toNat * 5)).off + 3, none⟩ = some (.int .i64 ((rd_T37 l0 (ji11)).f3)) ∧ w'.cell? ⟨(ad113.add (((ji11)).toNat * 5)).block, (ad113.add (((ji11)).toNat * 5)).off + 4, none⟩ = some (.int .i64 ((rd_T37 l0 (ji11)).f4))) (ds := []) (ba_ 17 0) kr_ rfl rfl ⟨(blk_cell BK114.out 0).trans rfl, (blk_cell BK114.out 1).trans rfl, (blk_cell BK114.out 2).trans rfl, (blk_cell BK114.out 3).trans rfl, (blk_cell BK114.out 4).trans rfl, ((HB.out.cell (World.block_lt_of_cell? w _ hw116_0)).trans hw116_0), ((HB.out.cell (World.block_lt_of_cell? w _ hw116_1)).trans hw116_1), ((HB.out.cell (World.block_lt_of_cell? w _ hw116_2)).trans hw116_2), ((HB.out.cell (World.block_lt_of_cell? w _ hw116_3)).trans hw116_3), ((HB.out.cell (World.block_lt_of_cell? w _ hw116_4)).trans hw116_4)⟩ (fun hHeld => ?_); refine with_tabW spec_LotsOk.tab8 spec_LotsOk.bits8 (fun HT_ HW_ => ?_)
           generalize w15.drew = w16 at BK114 HB hx116_0 hx116_1 hx116_2 hx116_3 hx116_4 hHeld ⊢
           refine ta_ 0 20 HT_.out HW_.out hHeld (ba_ 17 1) ?_; refine one_ (i := 1) (N := some 21) (ba_ 17 3) rfl rfl (one_of HT_.out kr_) (by decide) (fun K hK => ?_)
           refine goes_ Try.func39 kr_ rfl #[.agg #[.int .i64 ((rd_T37 l0 x5_1).f0), .int .i64 ((rd_T37 l0 x5_1).f1), .int .i64 ((rd_T37 l0 x5_1).f2), .int .i64 ((rd_T37 l0 x5_1).f3), .int .i64 ((rd_T37 l0 x5_1).f4)]] (by rfl) rfl rfl (bc_) ?_
           with_reducible refine (spec_l5Right.calls ((rd_T37 l0 x5_1).f0) ((rd_T37 l0 x5_1).f1) ((rd_T37 l0 x5_1).f2) ((rd_T37 l0 x5_1).f3) ((rd_T37 l0 x5_1).f4) true _ A8.out).mono ?_
           rintro e w17 ⟨rfl, hb⟩; refine ⟨_, rfl, ?_⟩
           have n_ := as2_ (blk_below (g := gb114) (o := .cells #[.int .i64 ((rd_T37 l0 x5_1).f0), .int .i64 ((rd_T37 l0 x5_1).f1), .int .i64 ((rd_T37 l0 x5_1).f2), .int .i64 ((rd_T37 l0 x5_1).f3), .int .i64 ((rd_T37 l0 x5_1).f4)] 37 (0, 0)) (pb_ BK114.out) hb) (below_step (bg_ GE114.out) hb); clear BK114 HB; obtain ⟨BK114, HB⟩ := n_
           
           
           
           
           refine hK.out _ _ ⟨(blk_cell BK114.out 0).trans rfl, (blk_cell BK114.out 1).trans rfl, (blk_cell BK114.out 2).trans rfl, (blk_cell BK114.out 3).trans rfl, (blk_cell BK114.out 4).trans rfl, ((HB.out.cell (World.block_lt_of_cell? w _ hw116_0)).trans hw116_0), ((HB.out.cell (World.block_lt_of_cell? w _ hw116_1)).trans hw116_1), ((HB.out.cell (World.block_lt_of_cell? w _ hw116_2)).trans hw116_2), ((HB.out.cell (World.block_lt_of_cell? w _ hw116_3)).trans hw116_3), ((HB.out.cell (World.block_lt_of_cell? w _ hw116_4)).trans hw116_4)⟩ (fun hHeld => ?_)
           clear hK K; refine norm_ (a' := ?_) ?_ ?_
           rotate_left
           ·
            show Act.put _ (some 21) _ = _
            exact sp_
           refine pu_ 2 22 HT_.out (ba_ 17 7) ?_; refine pu_ 3 23 HT_.out (ba_ 17 15) ?_; refine pu_ 4 24 HT_.out (ba_ 17 31) ?_; refine pu_ 5 25 HT_.out (ba_ 17 63) ?_; refine pu_ 6 26 HT_.out (ba_ 17 127) ?_; refine pu_ 7 27 HT_.out (ba_ 17 255) ?_; refine pu_ 8 28 HT_.out (ba_ 17 511) ?_; refine pu_ 9 29 HT_.out (ba_ 17 1023) ?_; refine pu_ 10 30 HT_.out (ba_ 17 2047) ?_; refine ta_ 11 31 HT_.out HW_.out hHeld (ba_ 17 4095) ?_; refine ta_ 12 32 HT_.out HW_.out hHeld (ba_ 17 8191) ?_; refine one_ (i := 13) (N := some 33) (ba_ 17 16383) rfl rfl (one_of HT_.out kr_) (by decide) (fun K hK => ?_)
           refine goes_ Try.func40 kr_ rfl #[.agg #[.int .i64 ((rd_T37 l0 (ji11)).f0), .int .i64 ((rd_T37 l0 (ji11)).f1), .int .i64 ((rd_T37 l0 (ji11)).f2), .int .i64 ((rd_T37 l0 (ji11)).f3), .int .i64 ((rd_T37 l0 (ji11)).f4)], .agg #[.int .i64 ((rd_T37 l0 x5_1).f0), .int .i64 ((rd_T37 l0 x5_1).f1), .int .i64 ((rd_T37 l0 x5_1).f2), .int .i64 ((rd_T37 l0 x5_1).f3), .int .i64 ((rd_T37 l0 x5_1).f4)]] (by rfl) rfl rfl (by (try simp only [List.map_toArray, List.map_cons, List.map_nil]); first | done | (simp only [hji11]; rfl) | rfl | (simp only [List.length_drop, List.length_take]; rfl)) ?_
           with_reducible refine (spec_l5Before.calls ((rd_T37 l0 (ji11)).f0) ((rd_T37 l0 (ji11)).f1) ((rd_T37 l0 (ji11)).f2) ((rd_T37 l0 (ji11)).f3) ((rd_T37 l0 (ji11)).f4) ((rd_T37 l0 x5_1).f0) ((rd_T37 l0 x5_1).f1) ((rd_T37 l0 x5_1).f2) ((rd_T37 l0 x5_1).f3) ((rd_T37 l0 x5_1).f4) t117 _ A14.out).mono ?_
           rintro e w18 ⟨rfl, hb⟩; refine ⟨_, rfl, ?_⟩
           have n_ := as2_ (blk_below (g := gb114) (o := .cells #[.int .i64 ((rd_T37 l0 x5_1).f0), .int .i64 ((rd_T37 l0 x5_1).f1), .int .i64 ((rd_T37 l0 x5_1).f2), .int .i64 ((rd_T37 l0 x5_1).f3), .int .i64 ((rd_T37 l0 x5_1).f4)] 37 (0, 0)) (pb_ BK114.out) hb) (below_step (bg_ GE114.out) hb); clear BK114 HB; obtain ⟨BK114, HB⟩ := n_
           
           
           
           
           refine hK.out _ _ ⟨(blk_cell BK114.out 0).trans rfl, (blk_cell BK114.out 1).trans rfl, (blk_cell BK114.out 2).trans rfl, (blk_cell BK114.out 3).trans rfl, (blk_cell BK114.out 4).trans rfl, ((HB.out.cell (World.block_lt_of_cell? w _ hw116_0)).trans hw116_0), ((HB.out.cell (World.block_lt_of_cell? w _ hw116_1)).trans hw116_1), ((HB.out.cell (World.block_lt_of_cell? w _ hw116_2)).trans hw116_2), ((HB.out.cell (World.block_lt_of_cell? w _ hw116_3)).trans hw116_3), ((HB.out.cell (World.block_lt_of_cell? w _ hw116_4)).trans hw116_4)⟩ (fun hHeld => ?_)
           clear hK K; refine norm_ (a' := ?_) ?_ ?_
           rotate_left
           ·
            show Act.put _ (some 33) _ = _
            exact sp_
           refine pu_ 14 34 HT_.out (ba_ 17 32767) ?_; refine pu_ 15 35 HT_.out (ba_ 17 65535) ?_; refine pu_ 16 36 HT_.out (ba_ 17 131071) ?_; refine done_ (done_of HT_.out kr_) ?_
           try go_wp2
           go_meet
           case rel => exact ⟨_, (!t117), (rs_), H', ⟨by have := HK1.out; first | omega | exact Nat.le_refl _⟩, ⟨by (with_reducible repeat (first | refine blk_drewN ?_ _ | refine blk_drew ?_ | refine blk_alloc ?_ _)); exact BK114.out⟩, ⟨bg_ GE114.out⟩⟩
          ·
           rw [if_neg c13] at H; exact absurd H (by simp)
         ·
          rw [if_neg c12] at H; exact absurd H (by simp)
        ·
         rw [if_neg c10] at H; have c10b0 : decide (0 < x5_1) = false := decide_eq_false c10; clear c10; (first | rw [c10b0] | (simp only [i64_w, i32_w]; rw [c10b0]) | skip)
         have H' := Aside0.mk H; clear H; try go_wp2
         have n0_ : Aside0 ((((((w6.setCell ⟨gb114, 0, none⟩ (.int .i64 ((rd_T37 l0 x5_1).f0))).setCell ⟨gb114, 1, none⟩ (.int .i64 ((rd_T37 l0 x5_1).f1))).setCell ⟨gb114, 2, none⟩ (.int .i64 ((rd_T37 l0 x5_1).f2))).setCell ⟨gb114, 3, none⟩ (.int .i64 ((rd_T37 l0 x5_1).f3))).setCell ⟨gb114, 4, none⟩ (.int .i64 ((rd_T37 l0 x5_1).f4))).heap[gb114]? = some (.cells #[.int .i64 ((rd_T37 l0 x5_1).f0), .int .i64 ((rd_T37 l0 x5_1).f1), .int .i64 ((rd_T37 l0 x5_1).f2), .int .i64 ((rd_T37 l0 x5_1).f3), .int .i64 ((rd_T37 l0 x5_1).f4)] 37 (0, 0))) := ⟨by (with_reducible repeat (first | refine blk_drewN ?_ _ | refine blk_drew ?_ | refine blk_alloc ?_ _)); refine blk_put (cs := #[.int .i64 ((rd_T37 l0 x5_1).f0), .int .i64 ((rd_T37 l0 x5_1).f1), .int .i64 ((rd_T37 l0 x5_1).f2), .int .i64 ((rd_T37 l0 x5_1).f3), .int .i64 0]) ?_ 4 _ rfl; (with_reducible repeat (first | refine blk_drewN ?_ _ | refine blk_drew ?_ | refine blk_alloc ?_ _)); refine blk_put (cs := #[.int .i64 ((rd_T37 l0 x5_1).f0), .int .i64 ((rd_T37 l0 x5_1).f1), .int .i64 ((rd_T37 l0 x5_1).f2), .int .i64 0, .int .i64 0]) ?_ 3 _ rfl; (with_reducible repeat (first | refine blk_drewN ?_ _ | refine blk_drew ?_ | refine blk_alloc ?_ _)); refine blk_put (cs := #[.int .i64 ((rd_T37 l0 x5_1).f0), .int .i64 ((rd_T37 l0 x5_1).f1), .int .i64 0, .int .i64 0, .int .i64 0]) ?_ 2 _ rfl; (with_reducible repeat (first | refine blk_drewN ?_ _ | refine blk_drew ?_ | refine blk_alloc ?_ _)); refine blk_put (cs := #[.int .i64 ((rd_T37 l0 x5_1).f0), .int .i64 0, .int .i64 0, .int .i64 0, .int .i64 0]) ?_ 1 _ rfl; (with_reducible repeat (first | refine blk_drewN ?_ _ | refine blk_drew ?_ | refine blk_alloc ?_ _)); refine blk_put (cs := #[.int .i64 0, .int .i64 0, .int .i64 0, .int .i64 0, .int .i64 0]) ?_ 0 _ rfl; (with_reducible repeat (first | refine blk_drewN ?_ _ | refine blk_drew ?_ | refine blk_alloc ?_ _)); exact BK114.out⟩
         have n1_ : Aside0 (Below w.heap.size w (((((w6.setCell ⟨gb114, 0, none⟩ (.int .i64 ((rd_T37 l0 x5_1).f0))).setCell ⟨gb114, 1, none⟩ (.int .i64 ((rd_T37 l0 x5_1).f1))).setCell ⟨gb114, 2, none⟩ (.int .i64 ((rd_T37 l0 x5_1).f2))).setCell ⟨gb114, 3, none⟩ (.int .i64 ((rd_T37 l0 x5_1).f3))).setCell ⟨gb114, 4, none⟩ (.int .i64 ((rd_T37 l0 x5_1).f4)))) := ⟨bg_ GE114.out⟩; (try clear BK114); (try clear HB); generalize (((((w6.setCell ⟨gb114, 0, none⟩ (.int .i64 ((rd_T37 l0 x5_1).f0))).setCell ⟨gb114, 1, none⟩ (.int .i64 ((rd_T37 l0 x5_1).f1))).setCell ⟨gb114, 2, none⟩ (.int .i64 ((rd_T37 l0 x5_1).f2))).setCell ⟨gb114, 3, none⟩ (.int .i64 ((rd_T37 l0 x5_1).f3))).setCell ⟨gb114, 4, none⟩ (.int .i64 ((rd_T37 l0 x5_1).f4))) = w19 at n0_ n1_ ⊢
         have BK114 := n0_; have HB := n1_; clear n0_ n1_; have n_ := as2_ (blk_drew BK114.out) (below_drew1 HB.out); clear BK114 HB; obtain ⟨BK114, HB⟩ := n_; refine start_ (n := 17) (S := fun w' => w'.cell? ⟨gb114, 0, none⟩ = some (.int .i64 ((rd_T37 l0 x5_1).f0)) ∧ w'.cell? ⟨gb114, 1, none⟩ = some (.int .i64 ((rd_T37 l0 x5_1).f1)) ∧ w'.cell? ⟨gb114, 2, none⟩ = some (.int .i64 ((rd_T37 l0 x5_1).f2)) ∧ w'.cell? ⟨gb114, 3, none⟩ = some (.int .i64 ((rd_T37 l0 x5_1).f3)) ∧ w'.cell? ⟨gb114, 4, none⟩ = some (.int .i64 ((rd_T37 l0 x5_1).f4))) (ds := []) (ba_ 17 0) kr_ rfl rfl ⟨(blk_cell BK114.out 0).trans rfl, (blk_cell BK114.out 1).trans rfl, (blk_cell BK114.out 2).trans rfl, (blk_cell BK114.out 3).trans rfl, (blk_cell BK114.out 4).trans rfl⟩ (fun hHeld => ?_); refine with_tabW spec_LotsOk.tab8 spec_LotsOk.bits8 (fun HT_ HW_ => ?_)
         generalize w19.drew = w20 at BK114 HB hHeld ⊢
         refine ta_ 0 20 HT_.out HW_.out hHeld (ba_ 17 1) ?_; refine one_ (i := 1) (N := some 21) (ba_ 17 3) rfl rfl (one_of HT_.out kr_) (by decide) (fun K hK => ?_)
         refine goes_ Try.func39 kr_ rfl #[.agg #[.int .i64 ((rd_T37 l0 x5_1).f0), .int .i64 ((rd_T37 l0 x5_1).f1), .int .i64 ((rd_T37 l0 x5_1).f2), .int .i64 ((rd_T37 l0 x5_1).f3), .int .i64 ((rd_T37 l0 x5_1).f4)]] (by rfl) rfl rfl (bc_) ?_
         with_reducible refine (spec_l5Right.calls ((rd_T37 l0 x5_1).f0) ((rd_T37 l0 x5_1).f1) ((rd_T37 l0 x5_1).f2) ((rd_T37 l0 x5_1).f3) ((rd_T37 l0 x5_1).f4) true _ A8.out).mono ?_
         rintro e w21 ⟨rfl, hb⟩; refine ⟨_, rfl, ?_⟩
         have n_ := as2_ (blk_below (g := gb114) (o := .cells #[.int .i64 ((rd_T37 l0 x5_1).f0), .int .i64 ((rd_T37 l0 x5_1).f1), .int .i64 ((rd_T37 l0 x5_1).f2), .int .i64 ((rd_T37 l0 x5_1).f3), .int .i64 ((rd_T37 l0 x5_1).f4)] 37 (0, 0)) (pb_ BK114.out) hb) (below_step (bg_ GE114.out) hb); clear BK114 HB; obtain ⟨BK114, HB⟩ := n_
         
         
         
         
         refine hK.out _ _ ⟨(blk_cell BK114.out 0).trans rfl, (blk_cell BK114.out 1).trans rfl, (blk_cell BK114.out 2).trans rfl, (blk_cell BK114.out 3).trans rfl, (blk_cell BK114.out 4).trans rfl⟩ (fun hHeld => ?_)
         clear hK K; refine norm_ (a' := ?_) ?_ ?_
         rotate_left
         ·
          show Act.put _ (some 21) _ = _
          exact sp_
         refine pu_ 2 22 HT_.out (ba_ 17 7) ?_; refine pu_ 3 23 HT_.out (ba_ 17 15) ?_; refine pu_ 4 24 HT_.out (ba_ 17 31) ?_; refine pu_ 5 25 HT_.out (ba_ 17 63) ?_; refine pu_ 6 26 HT_.out (ba_ 17 127) ?_; refine sk_ 7 27 HT_.out (ba_ 17 255) ?_; refine sk_ 8 28 HT_.out (ba_ 17 511) ?_; refine sk_ 9 29 HT_.out (ba_ 17 1023) ?_; refine sk_ 10 30 HT_.out (ba_ 17 2047) ?_; refine sk_ 11 31 HT_.out (ba_ 17 4095) ?_; refine sk_ 12 32 HT_.out (ba_ 17 8191) ?_; refine sk_ 13 33 HT_.out (ba_ 17 16383) ?_; refine sk_ 14 34 HT_.out (ba_ 17 32767) ?_; refine pu_ 15 35 HT_.out (ba_ 17 65535) ?_; refine pu_ 16 36 HT_.out (ba_ 17 131071) ?_; refine done_ (done_of HT_.out kr_) ?_
         try go_wp2
         go_meet
         case rel => exact ⟨_, (false), (rs_), H', ⟨by have := HK1.out; first | omega | exact Nat.le_refl _⟩, ⟨by (with_reducible repeat (first | refine blk_drewN ?_ _ | refine blk_drew ?_ | refine blk_alloc ?_ _)); exact BK114.out⟩, ⟨bg_ GE114.out⟩⟩
       ·
        replace c9 := Bool.eq_false_iff.mpr c9; subst c9; have H' := Aside0.mk (Eq.trans (if_neg nf_).symm H); clear H; try go_wp2
        have n0_ : Aside0 ((((((w6.setCell ⟨gb114, 0, none⟩ (.int .i64 ((rd_T37 l0 x5_1).f0))).setCell ⟨gb114, 1, none⟩ (.int .i64 ((rd_T37 l0 x5_1).f1))).setCell ⟨gb114, 2, none⟩ (.int .i64 ((rd_T37 l0 x5_1).f2))).setCell ⟨gb114, 3, none⟩ (.int .i64 ((rd_T37 l0 x5_1).f3))).setCell ⟨gb114, 4, none⟩ (.int .i64 ((rd_T37 l0 x5_1).f4))).heap[gb114]? = some (.cells #[.int .i64 ((rd_T37 l0 x5_1).f0), .int .i64 ((rd_T37 l0 x5_1).f1), .int .i64 ((rd_T37 l0 x5_1).f2), .int .i64 ((rd_T37 l0 x5_1).f3), .int .i64 ((rd_T37 l0 x5_1).f4)] 37 (0, 0))) := ⟨by (with_reducible repeat (first | refine blk_drewN ?_ _ | refine blk_drew ?_ | refine blk_alloc ?_ _)); refine blk_put (cs := #[.int .i64 ((rd_T37 l0 x5_1).f0), .int .i64 ((rd_T37 l0 x5_1).f1), .int .i64 ((rd_T37 l0 x5_1).f2), .int .i64 ((rd_T37 l0 x5_1).f3), .int .i64 0]) ?_ 4 _ rfl; (with_reducible repeat (first | refine blk_drewN ?_ _ | refine blk_drew ?_ | refine blk_alloc ?_ _)); refine blk_put (cs := #[.int .i64 ((rd_T37 l0 x5_1).f0), .int .i64 ((rd_T37 l0 x5_1).f1), .int .i64 ((rd_T37 l0 x5_1).f2), .int .i64 0, .int .i64 0]) ?_ 3 _ rfl; (with_reducible repeat (first | refine blk_drewN ?_ _ | refine blk_drew ?_ | refine blk_alloc ?_ _)); refine blk_put (cs := #[.int .i64 ((rd_T37 l0 x5_1).f0), .int .i64 ((rd_T37 l0 x5_1).f1), .int .i64 0, .int .i64 0, .int .i64 0]) ?_ 2 _ rfl; (with_reducible repeat (first | refine blk_drewN ?_ _ | refine blk_drew ?_ | refine blk_alloc ?_ _)); refine blk_put (cs := #[.int .i64 ((rd_T37 l0 x5_1).f0), .int .i64 0, .int .i64 0, .int .i64 0, .int .i64 0]) ?_ 1 _ rfl; (with_reducible repeat (first | refine blk_drewN ?_ _ | refine blk_drew ?_ | refine blk_alloc ?_ _)); refine blk_put (cs := #[.int .i64 0, .int .i64 0, .int .i64 0, .int .i64 0, .int .i64 0]) ?_ 0 _ rfl; (with_reducible repeat (first | refine blk_drewN ?_ _ | refine blk_drew ?_ | refine blk_alloc ?_ _)); exact BK114.out⟩
        have n1_ : Aside0 (Below w.heap.size w (((((w6.setCell ⟨gb114, 0, none⟩ (.int .i64 ((rd_T37 l0 x5_1).f0))).setCell ⟨gb114, 1, none⟩ (.int .i64 ((rd_T37 l0 x5_1).f1))).setCell ⟨gb114, 2, none⟩ (.int .i64 ((rd_T37 l0 x5_1).f2))).setCell ⟨gb114, 3, none⟩ (.int .i64 ((rd_T37 l0 x5_1).f3))).setCell ⟨gb114, 4, none⟩ (.int .i64 ((rd_T37 l0 x5_1).f4)))) := ⟨bg_ GE114.out⟩; (try clear BK114); (try clear HB); generalize (((((w6.setCell ⟨gb114, 0, none⟩ (.int .i64 ((rd_T37 l0 x5_1).f0))).setCell ⟨gb114, 1, none⟩ (.int .i64 ((rd_T37 l0 x5_1).f1))).setCell ⟨gb114, 2, none⟩ (.int .i64 ((rd_T37 l0 x5_1).f2))).setCell ⟨gb114, 3, none⟩ (.int .i64 ((rd_T37 l0 x5_1).f3))).setCell ⟨gb114, 4, none⟩ (.int .i64 ((rd_T37 l0 x5_1).f4))) = w22 at n0_ n1_ ⊢
        have BK114 := n0_; have HB := n1_; clear n0_ n1_; have n_ := as2_ (blk_drew BK114.out) (below_drew1 HB.out); clear BK114 HB; obtain ⟨BK114, HB⟩ := n_; refine start_ (n := 17) (S := fun w' => w'.cell? ⟨gb114, 0, none⟩ = some (.int .i64 ((rd_T37 l0 x5_1).f0)) ∧ w'.cell? ⟨gb114, 1, none⟩ = some (.int .i64 ((rd_T37 l0 x5_1).f1)) ∧ w'.cell? ⟨gb114, 2, none⟩ = some (.int .i64 ((rd_T37 l0 x5_1).f2)) ∧ w'.cell? ⟨gb114, 3, none⟩ = some (.int .i64 ((rd_T37 l0 x5_1).f3)) ∧ w'.cell? ⟨gb114, 4, none⟩ = some (.int .i64 ((rd_T37 l0 x5_1).f4))) (ds := []) (ba_ 17 0) kr_ rfl rfl ⟨(blk_cell BK114.out 0).trans rfl, (blk_cell BK114.out 1).trans rfl, (blk_cell BK114.out 2).trans rfl, (blk_cell BK114.out 3).trans rfl, (blk_cell BK114.out 4).trans rfl⟩ (fun hHeld => ?_); refine with_tabW spec_LotsOk.tab8 spec_LotsOk.bits8 (fun HT_ HW_ => ?_)
        generalize w22.drew = w23 at BK114 HB hHeld ⊢
        refine ta_ 0 20 HT_.out HW_.out hHeld (ba_ 17 1) ?_; refine one_ (i := 1) (N := some 21) (ba_ 17 3) rfl rfl (one_of HT_.out kr_) (by decide) (fun K hK => ?_)
        refine goes_ Try.func39 kr_ rfl #[.agg #[.int .i64 ((rd_T37 l0 x5_1).f0), .int .i64 ((rd_T37 l0 x5_1).f1), .int .i64 ((rd_T37 l0 x5_1).f2), .int .i64 ((rd_T37 l0 x5_1).f3), .int .i64 ((rd_T37 l0 x5_1).f4)]] (by rfl) rfl rfl (bc_) ?_
        with_reducible refine (spec_l5Right.calls ((rd_T37 l0 x5_1).f0) ((rd_T37 l0 x5_1).f1) ((rd_T37 l0 x5_1).f2) ((rd_T37 l0 x5_1).f3) ((rd_T37 l0 x5_1).f4) false _ A8.out).mono ?_
        rintro e w24 ⟨rfl, hb⟩; refine ⟨_, rfl, ?_⟩
        have n_ := as2_ (blk_below (g := gb114) (o := .cells #[.int .i64 ((rd_T37 l0 x5_1).f0), .int .i64 ((rd_T37 l0 x5_1).f1), .int .i64 ((rd_T37 l0 x5_1).f2), .int .i64 ((rd_T37 l0 x5_1).f3), .int .i64 ((rd_T37 l0 x5_1).f4)] 37 (0, 0)) (pb_ BK114.out) hb) (below_step (bg_ GE114.out) hb); clear BK114 HB; obtain ⟨BK114, HB⟩ := n_
        
        
        
        
        refine hK.out _ _ ⟨(blk_cell BK114.out 0).trans rfl, (blk_cell BK114.out 1).trans rfl, (blk_cell BK114.out 2).trans rfl, (blk_cell BK114.out 3).trans rfl, (blk_cell BK114.out 4).trans rfl⟩ (fun hHeld => ?_)
        clear hK K; refine norm_ (a' := ?_) ?_ ?_
        rotate_left
        ·
         show Act.put _ (some 21) _ = _
         exact sp_
        refine pu_ 2 22 HT_.out (ba_ 17 7) ?_; refine pu_ 3 23 HT_.out (ba_ 17 15) ?_; refine sk_ 4 24 HT_.out (ba_ 17 31) ?_; refine sk_ 5 25 HT_.out (ba_ 17 63) ?_; refine sk_ 6 26 HT_.out (ba_ 17 127) ?_; refine sk_ 7 27 HT_.out (ba_ 17 255) ?_; refine sk_ 8 28 HT_.out (ba_ 17 511) ?_; refine sk_ 9 29 HT_.out (ba_ 17 1023) ?_; refine sk_ 10 30 HT_.out (ba_ 17 2047) ?_; refine sk_ 11 31 HT_.out (ba_ 17 4095) ?_; refine sk_ 12 32 HT_.out (ba_ 17 8191) ?_; refine sk_ 13 33 HT_.out (ba_ 17 16383) ?_; refine sk_ 14 34 HT_.out (ba_ 17 32767) ?_; refine sk_ 15 35 HT_.out (ba_ 17 65535) ?_; refine pu_ 16 36 HT_.out (ba_ 17 131071) ?_; refine done_ (done_of HT_.out kr_) ?_
        try go_wp2
        go_meet
        case rel => exact ⟨_, (true), (rs_), H', ⟨by have := HK1.out; first | omega | exact Nat.le_refl _⟩, ⟨by (with_reducible repeat (first | refine blk_drewN ?_ _ | refine blk_drew ?_ | refine blk_alloc ?_ _)); exact BK114.out⟩, ⟨bg_ GE114.out⟩⟩
      case rest =>
       clear HC5; (try clear c1); (try clear p1); (try clear q1); (try clear hx1); (try clear c2b0); (try clear c2b1); (try clear p2); (try clear c3b0); (try clear c4b0); (try clear p6); (try clear c9); (try clear c10b0); (try clear p11); (try clear q11); (try clear hx11); (try clear c12b0); (try clear c13b0); (try clear c15); (try clear hcz7_0); (try clear hcz7_1); (try clear hcz7_2); (try clear hcz7_3); (try clear hcz7_4); (try clear hfz7_0); (try clear hfz7_1); (try clear hfz7_2); (try clear hfz7_3); (try clear hfz7_4); (try clear hx113_0); (try clear hx113_1); (try clear hx113_2); (try clear hx113_3); (try clear hx113_4); (try clear hx116_0); (try clear hx116_1); (try clear hx116_2); (try clear hx116_3); (try clear hx116_4); (try clear p113); (try clear p116); (try clear p2); (try clear q113); (try clear q116); obtain ⟨kq, x36_4, rfl, HA, HJ4, BK114, HB⟩ := hcut
       cases kq with
       | zero => exact absurd HA.out (by simp [spec_LotsOk.j1])
       | succ kj4 =>
        have H := HA.out; clear HA; simp only [spec_LotsOk.j1] at H
        by_cases c25 : x36_4 = true
        ·
         subst c25; replace H := Eq.trans (if_pos rfl).symm H; obtain rfl := Option.some.inj H; go_wp2; go_ret; exact ⟨er_, bg_ GE114.out⟩
        ·
         replace c25 := Bool.eq_false_iff.mpr c25; subst c25; replace H := Eq.trans (if_neg nf_).symm H; have HC26 := Aside0.mk H; clear H; go_upto_region 10 with (fail)
         go_cut [60] (fun v60 wc => ∃ (kq : Nat) (x60_25 : Bool), v60 = .bool x60_25 ∧ Aside0 (spec_LotsOk.j2 kq l0 x3_1 x4_1 x5_1 x60_25 ((rd_T37 l0 x5_1).f0) ((rd_T37 l0 x5_1).f1) ((rd_T37 l0 x5_1).f2) ((rd_T37 l0 x5_1).f3) ((rd_T37 l0 x5_1).f4) = some r) ∧ Aside0 (kq ≤ kj4) ∧ Aside0 (wc.heap[gb114]? = some (.cells #[.int .i64 ((rd_T37 l0 x5_1).f0), .int .i64 ((rd_T37 l0 x5_1).f1), .int .i64 ((rd_T37 l0 x5_1).f2), .int .i64 ((rd_T37 l0 x5_1).f3), .int .i64 ((rd_T37 l0 x5_1).f4)] 37 (0, 0))) ∧ Aside0 (Below w.heap.size w wc))
         case first =>
          have H := HC26.out; clear HC26
          by_cases c27 : x5_1 = 0
          ·
           rw [if_pos c27] at H; have c27b0 : (x5_1 == 0) = true := beq_iff_eq.mpr c27; have c27b1 : (x5_1 != 0) = false := bne_eq_false_iff_eq.mpr c27; clear c27; (first | rw [c27b0] | (simp only [i64_w, i32_w]; rw [c27b0]) | skip)
           have H' := Aside0.mk H; clear H; try go_wp2
           have n_ := as2_ (blk_drew BK114.out) (below_drew1 HB.out); clear BK114 HB; obtain ⟨BK114, HB⟩ := n_; refine start_ (n := 24) (S := fun w' => True) (ds := []) (ba_ 24 0) kr_ rfl rfl trivial (fun hHeld => ?_); refine with_tabW spec_LotsOk.tab10 spec_LotsOk.bits10 (fun HT_ HW_ => ?_)
           generalize wc.drew = w28 at BK114 HB hHeld ⊢
           refine pu_ 0 37 HT_.out (ba_ 24 1) ?_; refine pu_ 1 38 HT_.out (ba_ 24 3) ?_; refine pu_ 2 39 HT_.out (ba_ 24 7) ?_; refine sk_ 3 40 HT_.out (ba_ 24 15) ?_; refine sk_ 4 41 HT_.out (ba_ 24 31) ?_; refine sk_ 5 42 HT_.out (ba_ 24 63) ?_; refine sk_ 6 43 HT_.out (ba_ 24 127) ?_; refine sk_ 7 44 HT_.out (ba_ 24 255) ?_; refine sk_ 8 45 HT_.out (ba_ 24 511) ?_; refine sk_ 9 46 HT_.out (ba_ 24 1023) ?_; refine sk_ 10 47 HT_.out (ba_ 24 2047) ?_; refine sk_ 11 48 HT_.out (ba_ 24 4095) ?_; refine pu_ 12 49 HT_.out (ba_ 24 8191) ?_; refine pu_ 13 50 HT_.out (ba_ 24 16383) ?_; refine sk_ 14 51 HT_.out (ba_ 24 32767) ?_; refine sk_ 15 52 HT_.out (ba_ 24 65535) ?_; refine sk_ 16 53 HT_.out (ba_ 24 131071) ?_; refine sk_ 17 54 HT_.out (ba_ 24 262143) ?_; refine sk_ 18 55 HT_.out (ba_ 24 524287) ?_; refine sk_ 19 56 HT_.out (ba_ 24 1048575) ?_; refine sk_ 20 57 HT_.out (ba_ 24 2097151) ?_; refine sk_ 21 58 HT_.out (ba_ 24 4194303) ?_; refine sk_ 22 59 HT_.out (ba_ 24 8388607) ?_; refine pu_ 23 60 HT_.out (ba_ 24 16777215) ?_; refine done_ (done_of HT_.out kr_) ?_
           try go_wp2
           go_meet
           case rel => exact ⟨_, (true), (rs_), H', ⟨by have := HK1.out; have := HJ4.out; first | omega | exact Nat.le_refl _⟩, ⟨by (with_reducible repeat (first | refine blk_drewN ?_ _ | refine blk_drew ?_ | refine blk_alloc ?_ _)); exact BK114.out⟩, ⟨bg_ GE114.out⟩⟩
          ·
           rw [if_neg c27] at H; have c27b0 : (x5_1 == 0) = false := beq_eq_false_iff_ne.mpr c27; have c27b1 : (x5_1 != 0) = true := bne_iff_ne.mpr c27; (first | rw [c27b0] | (simp only [i64_w, i32_w]; rw [c27b0]) | skip)
           obtain ⟨ji29, hji29⟩ : ∃ j_ : Int, (wrap64 (x5_1 - 1)) = j_ := ⟨_, rfl⟩; replace H : (if 0 ≤ (ji29) then (if (ji29) < (l0.length : Int) then (if ((rd_T37 l0 x5_1).f0) = ((rd_T37 l0 (ji29)).f0) then (spec_LotsOk.j2 kj4 l0 x3_1 x4_1 x5_1 (((rd_T37 l0 x5_1).f1) != ((rd_T37 l0 (ji29)).f1)) ((rd_T37 l0 x5_1).f0) ((rd_T37 l0 x5_1).f1) ((rd_T37 l0 x5_1).f2) ((rd_T37 l0 x5_1).f3) ((rd_T37 l0 x5_1).f4)) else (spec_LotsOk.j2 kj4 l0 x3_1 x4_1 x5_1 true ((rd_T37 l0 x5_1).f0) ((rd_T37 l0 x5_1).f1) ((rd_T37 l0 x5_1).f2) ((rd_T37 l0 x5_1).f3) ((rd_T37 l0 x5_1).f4))) else (none)) else (none)) = some r := rj_ hji29 H; have hji29w : (IntKind.i64.wrap (x5_1 - 1)) = ji29 := (i64_w _).trans hji29
           by_cases c30 : 0 ≤ (ji29)
           ·
            rw [if_pos c30] at H; have c30b0 : decide (0 ≤ (ji29)) = true := decide_eq_true c30; clear c30
            by_cases c31 : (ji29) < (l0.length : Int)
            ·
             rw [if_pos c31] at H; have c31b0 : decide ((ji29) < (l0.length : Int)) = true := decide_eq_true c31; clear c31
             by_cases c32 : ((rd_T37 l0 x5_1).f0) = ((rd_T37 l0 (ji29)).f0)
             ·
              rw [if_pos c32] at H; have c32b0 : (((rd_T37 l0 x5_1).f0) == ((rd_T37 l0 (ji29)).f0)) = true := beq_iff_eq.mpr c32; have c32b1 : (((rd_T37 l0 x5_1).f0) != ((rd_T37 l0 (ji29)).f0)) = false := bne_eq_false_iff_eq.mpr c32; clear c32; have H' := Aside0.mk H; clear H; try go_wp2
              have n_ := as2_ (blk_drew BK114.out) (below_drew1 HB.out); clear BK114 HB; obtain ⟨BK114, HB⟩ := n_; have p118 : 0 ≤ ((ji29) : Int) := od_; have q118 : (ji29) < (l0.length : Int) := od_; obtain ⟨ad118, e118, hx118_0, hx118_1, hx118_2, hx118_3, hx118_4⟩ := at_T37 HR0.out (ji29) p118 q118; have hw118_4 := hx118_4; have hw118_3 := hx118_3; have hw118_2 := hx118_2; have hw118_1 := hx118_1; have hw118_0 := hx118_0; obtain rfl : ad113 = ad118 := (by injection e118)
              replace hx118_0 := cl_ HB.out hx118_0; replace hx118_1 := cl_ HB.out hx118_1; replace hx118_2 := cl_ HB.out hx118_2; replace hx118_3 := cl_ HB.out hx118_3; replace hx118_4 := cl_ HB.out hx118_4; replace p118 := eq_true p118; replace q118 := eq_true q118; have p119 : 0 ≤ ((ji29) : Int) := od_; have q119 : (ji29) < (l0.length : Int) := od_; obtain ⟨ad119, e119, hx119_0, hx119_1, hx119_2, hx119_3, hx119_4⟩ := at_T37 HR0.out (ji29) p119 q119; have hw119_4 := hx119_4; have hw119_3 := hx119_3; have hw119_2 := hx119_2; have hw119_1 := hx119_1; have hw119_0 := hx119_0; obtain rfl : ad113 = ad119 := (by injection e119)
              replace hx119_0 := cl_ HB.out hx119_0; replace hx119_1 := cl_ HB.out hx119_1; replace hx119_2 := cl_ HB.out hx119_2; replace hx119_3 := cl_ HB.out hx119_3; replace hx119_4 := cl_ HB.out hx119_4; replace p119 := eq_true p119; replace q119 := eq_true q119
              refine start_ (n := 24) (S := fun w' => w'.cell? ⟨gb114, 0, none⟩ = some (.int .i64 ((rd_T37 l0 x5_1).f0)) ∧ w'.cell? ⟨gb114, 1, none⟩ = some (.int .i64 ((rd_T37 l0 x5_1).f1)) ∧ w'.cell? ⟨gb114, 2, none⟩ = some (.int .i64 ((rd_T37 l0 x5_1).f2)) ∧ w'.cell? ⟨gb114, 3, none⟩ = some (.int .i64 ((rd_T37 l0 x5_1).f3)) ∧ w'.cell? ⟨gb114, 4, none⟩ = some (.int .i64 ((rd_T37 l0 x5_1).f4)) ∧ w'.cell? (ad113.add (((ji29)).toNat * 5)) = some (.int .i64 ((rd_T37 l0 (ji29)).f0)) ∧ w'.cell? ⟨(ad113.add (((ji29)).toNat * 5)).block, (ad113.add (((ji29)).toNat * 5)).off + 1, none⟩ = some (.int .i64 ((rd_T37 l0 (ji29)).f1)) ∧ w'.cell? ⟨(ad113.add (((ji29)).toNat * 5)).block, (ad113.add (((ji29)).toNat * 5)).off + 2, none⟩ = some (.int .i64 ((rd_T37 l0 (ji29)).f2)) ∧ w'.cell? ⟨(ad113.add (((ji29)).toNat * 5)).block, (ad113.add (((ji29)).toNat * 5)).off + 3, none⟩ = some (.int .i64 ((rd_T37 l0 (ji29)).f3)) ∧ w'.cell? ⟨(ad113.add (((ji29)).toNat * 5)).block, (ad113.add (((ji29)).toNat * 5)).off + 4, none⟩ = some (.int .i64 ((rd_T37 l0 (ji29)).f4)) ∧ w'.cell? (ad113.add (((ji29)).toNat * 5)) = some (.int .i64 ((rd_T37 l0 (ji29)).f0)) ∧ w'.cell? ⟨(ad113.add (((ji29)).toNat * 5)).block, (ad113.add (((ji29)).toNat * 5)).off + 1, none⟩ = some (.int .i64 ((rd_T37 l0 (ji29)).f1)) ∧ w'.cell? ⟨(ad113.add (((ji29)).toNat * 5)).block, (ad113.add (((ji29)).toNat * 5)).off + 2, none⟩ = some (.int .i64 ((rd_T37 l0 (ji29)).f2)) ∧ w'.cell? ⟨(ad113.add (((ji29)).toNat * 5)).block, (ad113.add (((ji29)).toNat * 5)).off + 3, none⟩ = some (.int .i64 ((rd_T37 l0 (ji29)).f3)) ∧ w'.cell? ⟨(ad113.add (((ji29)).toNat * 5)).block, (ad113.add (((ji29)).toNat * 5)).off + 4, none⟩ = some (.int .i64 ((rd_T37 l0 (ji29)).f4))) (ds := []) (ba_ 24 0) kr_ rfl rfl ⟨(blk_cell BK114.out 0).trans rfl, (blk_cell BK114.out 1).trans rfl, (blk_cell BK114.out 2).trans rfl, (blk_cell BK114.out 3).trans rfl, (blk_cell BK114.out 4).trans rfl, ((HB.out.cell (World.block_lt_of_cell? w _ hw118_0)).trans hw118_0), ((HB.out.cell (World.block_lt_of_cell? w _ hw118_1)).trans hw118_1), ((HB.out.cell (World.block_lt_of_cell? w _ hw118_2)).trans hw118_2), ((HB.out.cell (World.block_lt_of_cell? w _ hw118_3)).trans hw118_3), ((HB.out.cell (World.block_lt_of_cell? w _ hw118_4)).trans hw118_4), ((HB.out.cell (World.block_lt_of_cell? w _ hw119_0)).trans hw119_0), ((HB.out.cell (World.block_lt_of_cell? w _ hw119_1)).trans hw119_1), ((HB.out.cell (World.block_lt_of_cell? w _ hw119_2)).trans hw119_2), ((HB.out.cell (World.block_lt_of_cell? w _ hw119_3)).trans hw119_3), ((HB.out.cell (World.block_lt_of_cell? w _ hw119_4)).trans hw119_4)⟩ (fun hHeld => ?_); refine with_tabW spec_LotsOk.tab10 spec_LotsOk.bits10 (fun HT_ HW_ => ?_)
              generalize wc.drew = w33 at BK114 HB hx118_0 hx118_1 hx118_2 hx118_3 hx118_4 hx119_0 hx119_1 hx119_2 hx119_3 hx119_4 hHeld ⊢
              refine pu_ 0 37 HT_.out (ba_ 24 1) ?_; refine pu_ 1 38 HT_.out (ba_ 24 3) ?_; refine pu_ 2 39 HT_.out (ba_ 24 7) ?_; refine pu_ 3 40 HT_.out (ba_ 24 15) ?_; refine pu_ 5 42 HT_.out (ba_ 24 47) ?_; refine pu_ 6 43 HT_.out (ba_ 24 111) ?_; refine pu_ 7 44 HT_.out (ba_ 24 239) ?_; refine pu_ 8 45 HT_.out (ba_ 24 495) ?_; refine pu_ 9 46 HT_.out (ba_ 24 1007) ?_; refine ta_ 4 41 HT_.out HW_.out hHeld (ba_ 24 1023) ?_; refine ta_ 10 47 HT_.out HW_.out hHeld (ba_ 24 2047) ?_; refine pu_ 11 48 HT_.out (ba_ 24 4095) ?_; refine pu_ 12 49 HT_.out (ba_ 24 8191) ?_; refine pu_ 13 50 HT_.out (ba_ 24 16383) ?_; refine pu_ 14 51 HT_.out (ba_ 24 32767) ?_; refine pu_ 16 53 HT_.out (ba_ 24 98303) ?_; refine pu_ 17 54 HT_.out (ba_ 24 229375) ?_; refine pu_ 18 55 HT_.out (ba_ 24 491519) ?_; refine pu_ 19 56 HT_.out (ba_ 24 1015807) ?_; refine pu_ 20 57 HT_.out (ba_ 24 2064383) ?_; refine ta_ 15 52 HT_.out HW_.out hHeld (ba_ 24 2097151) ?_; refine ta_ 21 58 HT_.out HW_.out hHeld (ba_ 24 4194303) ?_; refine pu_ 22 59 HT_.out (ba_ 24 8388607) ?_; refine pu_ 23 60 HT_.out (ba_ 24 16777215) ?_; refine done_ (done_of HT_.out kr_) ?_
              try go_wp2
              go_meet
              case rel => exact ⟨_, ((((rd_T37 l0 x5_1).f1) != ((rd_T37 l0 (ji29)).f1))), (by first | rfl | (simp; done) | (simp only [← hji29] <;> (first | rfl | simp)) | (simp [*]; done)), H', ⟨by have := HK1.out; have := HJ4.out; first | omega | exact Nat.le_refl _⟩, ⟨by (with_reducible repeat (first | refine blk_drewN ?_ _ | refine blk_drew ?_ | refine blk_alloc ?_ _)); exact BK114.out⟩, ⟨bg_ GE114.out⟩⟩
             ·
              rw [if_neg c32] at H; have c32b0 : (((rd_T37 l0 x5_1).f0) == ((rd_T37 l0 (ji29)).f0)) = false := beq_eq_false_iff_ne.mpr c32; have c32b1 : (((rd_T37 l0 x5_1).f0) != ((rd_T37 l0 (ji29)).f0)) = true := bne_iff_ne.mpr c32; have H' := Aside0.mk H; clear H; try go_wp2
              have n_ := as2_ (blk_drew BK114.out) (below_drew1 HB.out); clear BK114 HB; obtain ⟨BK114, HB⟩ := n_; have p118 : 0 ≤ ((ji29) : Int) := od_; have q118 : (ji29) < (l0.length : Int) := od_; obtain ⟨ad118, e118, hx118_0, hx118_1, hx118_2, hx118_3, hx118_4⟩ := at_T37 HR0.out (ji29) p118 q118; have hw118_4 := hx118_4; have hw118_3 := hx118_3; have hw118_2 := hx118_2; have hw118_1 := hx118_1; have hw118_0 := hx118_0; obtain rfl : ad113 = ad118 := (by injection e118)
              replace hx118_0 := cl_ HB.out hx118_0; replace hx118_1 := cl_ HB.out hx118_1; replace hx118_2 := cl_ HB.out hx118_2; replace hx118_3 := cl_ HB.out hx118_3; replace hx118_4 := cl_ HB.out hx118_4; replace p118 := eq_true p118; replace q118 := eq_true q118
              refine start_ (n := 24) (S := fun w' => w'.cell? ⟨gb114, 0, none⟩ = some (.int .i64 ((rd_T37 l0 x5_1).f0)) ∧ w'.cell? ⟨gb114, 1, none⟩ = some (.int .i64 ((rd_T37 l0 x5_1).f1)) ∧ w'.cell? ⟨gb114, 2, none⟩ = some (.int .i64 ((rd_T37 l0 x5_1).f2)) ∧ w'.cell? ⟨gb114, 3, none⟩ = some (.int .i64 ((rd_T37 l0 x5_1).f3)) ∧ w'.cell? ⟨gb114, 4, none⟩ = some (.int .i64 ((rd_T37 l0 x5_1).f4)) ∧ w'.cell? (ad113.add (((ji29)).toNat * 5)) = some (.int .i64 ((rd_T37 l0 (ji29)).f0)) ∧ w'.cell? ⟨(ad113.add (((ji29)).toNat * 5)).block, (ad113.add (((ji29)).toNat * 5)).off + 1, none⟩ = some (.int .i64 ((rd_T37 l0 (ji29)).f1)) ∧ w'.cell? ⟨(ad113.add (((ji29)).toNat * 5)).block, (ad113.add (((ji29)).toNat * 5)).off + 2, none⟩ = some (.int .i64 ((rd_T37 l0 (ji29)).f2)) ∧ w'.cell? ⟨(ad113.add (((ji29)).toNat * 5)).block, (ad113.add (((ji29)).toNat * 5)).off + 3, none⟩ = some (.int .i64 ((rd_T37 l0 (ji29)).f3)) ∧ w'.cell? ⟨(ad113.add (((ji29)).toNat * 5)).block, (ad113.add (((ji29)).toNat * 5)).off + 4, none⟩ = some (.int .i64 ((rd_T37 l0 (ji29)).f4))) (ds := []) (ba_ 24 0) kr_ rfl rfl ⟨(blk_cell BK114.out 0).trans rfl, (blk_cell BK114.out 1).trans rfl, (blk_cell BK114.out 2).trans rfl, (blk_cell BK114.out 3).trans rfl, (blk_cell BK114.out 4).trans rfl, ((HB.out.cell (World.block_lt_of_cell? w _ hw118_0)).trans hw118_0), ((HB.out.cell (World.block_lt_of_cell? w _ hw118_1)).trans hw118_1), ((HB.out.cell (World.block_lt_of_cell? w _ hw118_2)).trans hw118_2), ((HB.out.cell (World.block_lt_of_cell? w _ hw118_3)).trans hw118_3), ((HB.out.cell (World.block_lt_of_cell? w _ hw118_4)).trans hw118_4)⟩ (fun hHeld => ?_); refine with_tabW spec_LotsOk.tab10 spec_LotsOk.bits10 (fun HT_ HW_ => ?_)
              generalize wc.drew = w34 at BK114 HB hx118_0 hx118_1 hx118_2 hx118_3 hx118_4 hHeld ⊢
              refine pu_ 0 37 HT_.out (ba_ 24 1) ?_; refine pu_ 1 38 HT_.out (ba_ 24 3) ?_; refine pu_ 2 39 HT_.out (ba_ 24 7) ?_; refine pu_ 3 40 HT_.out (ba_ 24 15) ?_; refine pu_ 5 42 HT_.out (ba_ 24 47) ?_; refine pu_ 6 43 HT_.out (ba_ 24 111) ?_; refine pu_ 7 44 HT_.out (ba_ 24 239) ?_; refine pu_ 8 45 HT_.out (ba_ 24 495) ?_; refine pu_ 9 46 HT_.out (ba_ 24 1007) ?_; refine ta_ 4 41 HT_.out HW_.out hHeld (ba_ 24 1023) ?_; refine ta_ 10 47 HT_.out HW_.out hHeld (ba_ 24 2047) ?_; refine pu_ 11 48 HT_.out (ba_ 24 4095) ?_; refine pu_ 12 49 HT_.out (ba_ 24 8191) ?_; refine pu_ 13 50 HT_.out (ba_ 24 16383) ?_; refine sk_ 14 51 HT_.out (ba_ 24 32767) ?_; refine sk_ 15 52 HT_.out (ba_ 24 65535) ?_; refine sk_ 16 53 HT_.out (ba_ 24 131071) ?_; refine sk_ 17 54 HT_.out (ba_ 24 262143) ?_; refine sk_ 18 55 HT_.out (ba_ 24 524287) ?_; refine sk_ 19 56 HT_.out (ba_ 24 1048575) ?_; refine sk_ 20 57 HT_.out (ba_ 24 2097151) ?_; refine sk_ 21 58 HT_.out (ba_ 24 4194303) ?_; refine sk_ 22 59 HT_.out (ba_ 24 8388607) ?_; refine pu_ 23 60 HT_.out (ba_ 24 16777215) ?_; refine done_ (done_of HT_.out kr_) ?_
              try go_wp2
              go_meet
              case rel => exact ⟨_, (true), (rs_), H', ⟨by have := HK1.out; have := HJ4.out; first | omega | exact Nat.le_refl _⟩, ⟨by (with_reducible repeat (first | refine blk_drewN ?_ _ | refine blk_drew ?_ | refine blk_alloc ?_ _)); exact BK114.out⟩, ⟨bg_ GE114.out⟩⟩
            ·
             rw [if_neg c31] at H; exact absurd H (by simp)
           ·
            rw [if_neg c30] at H; exact absurd H (by simp)
         case rest =>
          clear HC26; (try clear p1); (try clear q1); (try clear hx1); (try clear p2); (try clear p6); (try clear p11); (try clear q11); (try clear hx11); (try clear c27b0); (try clear c27b1); (try clear c30b0); (try clear c31b0); (try clear c32b0); (try clear c32b1); (try clear hx118_0); (try clear hx118_1); (try clear hx118_2); (try clear hx118_3); (try clear hx118_4); (try clear hx119_0); (try clear hx119_1); (try clear hx119_2); (try clear hx119_3); (try clear hx119_4); (try clear p118); (try clear p119); (try clear q118); (try clear q119); obtain ⟨kq, x60_25, rfl, HA, HJ25, BK114, HB⟩ := hcut
          cases kq with
          | zero => exact absurd HA.out (by simp [spec_LotsOk.j2])
          | succ kj25 =>
           have H := HA.out; clear HA; simp only [spec_LotsOk.j2] at H; have HC35 := Aside0.mk H; clear H; go_upto_if 60 with (fail)
           go_cut [3, 4] (fun v3 v4 wc => ∃ (kq : Nat) (x3_34 : Int) (x4_34 : Int), v3 = .int .i64 x3_34 ∧ v4 = .int .i64 x4_34 ∧ Aside0 (spec_LotsOk.j3 kq l0 x3_34 x4_34 x5_1 ((rd_T37 l0 x5_1).f0) ((rd_T37 l0 x5_1).f1) ((rd_T37 l0 x5_1).f2) ((rd_T37 l0 x5_1).f3) ((rd_T37 l0 x5_1).f4) = some r) ∧ Aside0 (kq ≤ kj25) ∧ Aside0 (wc.heap[gb114]? = some (.cells #[.int .i64 ((rd_T37 l0 x5_1).f0), .int .i64 ((rd_T37 l0 x5_1).f1), .int .i64 ((rd_T37 l0 x5_1).f2), .int .i64 ((rd_T37 l0 x5_1).f3), .int .i64 ((rd_T37 l0 x5_1).f4)] 37 (0, 0))) ∧ Aside0 (Below w.heap.size w wc))
           case first =>
            have H := HC35.out; clear HC35
            by_cases c36 : x60_25 = true
            ·
             subst c36; have H' := Aside0.mk (Eq.trans (if_pos rfl).symm H); clear H; go_wp2; go_meet
             case rel => exact ⟨_, (0), (0), (rs_), (rs_), H', ⟨by have := HK1.out; have := HJ4.out; have := HJ25.out; first | omega | exact Nat.le_refl _⟩, ⟨by (with_reducible repeat (first | refine blk_drewN ?_ _ | refine blk_drew ?_ | refine blk_alloc ?_ _)); exact BK114.out⟩, ⟨bg_ GE114.out⟩⟩
            ·
             replace c36 := Bool.eq_false_iff.mpr c36; subst c36; have H' := Aside0.mk (Eq.trans (if_neg nf_).symm H); clear H; go_wp2; go_meet
             case rel => exact ⟨_, (x3_1), (x4_1), (rs_), (rs_), H', ⟨by have := HK1.out; have := HJ4.out; have := HJ25.out; first | omega | exact Nat.le_refl _⟩, ⟨by (with_reducible repeat (first | refine blk_drewN ?_ _ | refine blk_drew ?_ | refine blk_alloc ?_ _)); exact BK114.out⟩, ⟨bg_ GE114.out⟩⟩
           case rest =>
            clear HC35; (try clear p1); (try clear q1); (try clear hx1); (try clear p2); (try clear p6); (try clear p11); (try clear q11); (try clear hx11); (try clear c27b0); (try clear c27b1); (try clear c30b0); (try clear c31b0); (try clear c32b0); (try clear c32b1); (try clear c36); (try clear hx118_0); (try clear hx118_1); (try clear hx118_2); (try clear hx118_3); (try clear hx118_4); (try clear hx119_0); (try clear hx119_1); (try clear hx119_2); (try clear hx119_3); (try clear hx119_4); (try clear p1); (try clear p11); (try clear p118); (try clear p119); (try clear p2); (try clear p6); (try clear q1); (try clear q11); (try clear q118); (try clear q119); obtain ⟨kq, x3_34, x4_34, rfl, rfl, HA, HJ34, BK114, HB⟩ := hcut
            cases kq with
            | zero => exact absurd HA.out (by simp [spec_LotsOk.j3])
            | succ kj34 =>
             have H := HA.out; clear HA; simp only [spec_LotsOk.j3] at H; replace H := Option.bind_eq_some_iff.mp H; obtain ⟨t120, A370, H⟩ := H; have A37 := Aside0.mk A370; clear A370
             by_cases c38 : t120 = true
             ·
              subst c38; replace H := Eq.trans (if_pos rfl).symm H; replace H := Option.bind_eq_some_iff.mp H; obtain ⟨t121, A390, H⟩ := H; have A39 := Aside0.mk A390; clear A390
              by_cases c40 : t121 = true
              ·
               subst c40; have H' := Aside0.mk (Eq.trans (if_pos rfl).symm H); clear H; have hcz41_0 : wc.cell? ⟨gb114, 0, none⟩ = some (.int .i64 ((rd_T37 l0 x5_1).f0)) := (blk_cell BK114.out 0).trans rfl; have hcz41_1 : wc.cell? ⟨gb114, 1, none⟩ = some (.int .i64 ((rd_T37 l0 x5_1).f1)) := (blk_cell BK114.out 1).trans rfl; have hcz41_2 : wc.cell? ⟨gb114, 2, none⟩ = some (.int .i64 ((rd_T37 l0 x5_1).f2)) := (blk_cell BK114.out 2).trans rfl; have hcz41_3 : wc.cell? ⟨gb114, 3, none⟩ = some (.int .i64 ((rd_T37 l0 x5_1).f3)) := (blk_cell BK114.out 3).trans rfl; have hcz41_4 : wc.cell? ⟨gb114, 4, none⟩ = some (.int .i64 ((rd_T37 l0 x5_1).f4)) := (blk_cell BK114.out 4).trans rfl; have hfz41_0 := blk_frozen BK114.out 0; have hfz41_1 := blk_frozen BK114.out 1; have hfz41_2 := blk_frozen BK114.out 2; have hfz41_3 := blk_frozen BK114.out 3; have hfz41_4 := blk_frozen BK114.out 4; go_wp2_with (first | ((with_reducible refine gate_callee (f := 41) rfl ?_); refine goesL_ (some 70) rfl rfl Try.func41 kr_ rfl #[.int .i64 (wrap64 (x3_34 + ((rd_T37 l0 x5_1).f3)))] rfl (bc_) ?_; (with_reducible refine (spec_AmountOk.calls (wrap64 (x3_34 + ((rd_T37 l0 x5_1).f3))) true _ A37.out).mono ?_); rintro e w' ⟨rfl, ⟨nd, rfl⟩⟩; refine ⟨_, rfl, ?_⟩) | (go_at_call 41; (with_reducible refine (spec_AmountOk.calls (wrap64 (x4_34 + ((rd_T37 l0 x5_1).f4))) true _ A39.out).mono ?_); rintro e w' ⟨rfl, ⟨nd, rfl⟩⟩))
               go_roundg kj34
               case measure => have := HK1.out; have := HJ4.out; have := HJ25.out; have := HJ34.out; omega
               case rel => exact ⟨(wrap64 (x3_34 + ((rd_T37 l0 x5_1).f3))), (wrap64 (x4_34 + ((rd_T37 l0 x5_1).f4))), (wrap64 (x5_1 + 1)), (rs_), (rs_), (rs_), H', ⟨by have := HK1.out; have := HJ4.out; have := HJ25.out; have := HJ34.out; omega⟩, ⟨bg_ GE114.out⟩⟩
              ·
               replace c40 := Bool.eq_false_iff.mpr c40; subst c40; replace H := Eq.trans (if_neg nf_).symm H; obtain rfl := Option.some.inj H; have hcz42_0 : wc.cell? ⟨gb114, 0, none⟩ = some (.int .i64 ((rd_T37 l0 x5_1).f0)) := (blk_cell BK114.out 0).trans rfl; have hcz42_1 : wc.cell? ⟨gb114, 1, none⟩ = some (.int .i64 ((rd_T37 l0 x5_1).f1)) := (blk_cell BK114.out 1).trans rfl; have hcz42_2 : wc.cell? ⟨gb114, 2, none⟩ = some (.int .i64 ((rd_T37 l0 x5_1).f2)) := (blk_cell BK114.out 2).trans rfl; have hcz42_3 : wc.cell? ⟨gb114, 3, none⟩ = some (.int .i64 ((rd_T37 l0 x5_1).f3)) := (blk_cell BK114.out 3).trans rfl; have hcz42_4 : wc.cell? ⟨gb114, 4, none⟩ = some (.int .i64 ((rd_T37 l0 x5_1).f4)) := (blk_cell BK114.out 4).trans rfl; have hfz42_0 := blk_frozen BK114.out 0; have hfz42_1 := blk_frozen BK114.out 1; have hfz42_2 := blk_frozen BK114.out 2; have hfz42_3 := blk_frozen BK114.out 3; have hfz42_4 := blk_frozen BK114.out 4; go_wp2_with (first | ((with_reducible refine gate_callee (f := 41) rfl ?_); refine goesL_ (some 70) rfl rfl Try.func41 kr_ rfl #[.int .i64 (wrap64 (x3_34 + ((rd_T37 l0 x5_1).f3)))] rfl (bc_) ?_; (with_reducible refine (spec_AmountOk.calls (wrap64 (x3_34 + ((rd_T37 l0 x5_1).f3))) true _ A37.out).mono ?_); rintro e w' ⟨rfl, ⟨nd, rfl⟩⟩; refine ⟨_, rfl, ?_⟩) | (go_at_call 41; (with_reducible refine (spec_AmountOk.calls (wrap64 (x4_34 + ((rd_T37 l0 x5_1).f4))) false _ A39.out).mono ?_); rintro e w' ⟨rfl, ⟨nd, rfl⟩⟩))
               go_ret; exact ⟨er_, bg_ GE114.out⟩
             ·
              replace c38 := Bool.eq_false_iff.mpr c38; subst c38; replace H := Eq.trans (if_neg nf_).symm H; obtain rfl := Option.some.inj H; have hcz43_0 : wc.cell? ⟨gb114, 0, none⟩ = some (.int .i64 ((rd_T37 l0 x5_1).f0)) := (blk_cell BK114.out 0).trans rfl; have hcz43_1 : wc.cell? ⟨gb114, 1, none⟩ = some (.int .i64 ((rd_T37 l0 x5_1).f1)) := (blk_cell BK114.out 1).trans rfl; have hcz43_2 : wc.cell? ⟨gb114, 2, none⟩ = some (.int .i64 ((rd_T37 l0 x5_1).f2)) := (blk_cell BK114.out 2).trans rfl; have hcz43_3 : wc.cell? ⟨gb114, 3, none⟩ = some (.int .i64 ((rd_T37 l0 x5_1).f3)) := (blk_cell BK114.out 3).trans rfl; have hcz43_4 : wc.cell? ⟨gb114, 4, none⟩ = some (.int .i64 ((rd_T37 l0 x5_1).f4)) := (blk_cell BK114.out 4).trans rfl; have hfz43_0 := blk_frozen BK114.out 0; have hfz43_1 := blk_frozen BK114.out 1; have hfz43_2 := blk_frozen BK114.out 2; have hfz43_3 := blk_frozen BK114.out 3; have hfz43_4 := blk_frozen BK114.out 4; go_wp2_with (first | ((with_reducible refine gate_callee (f := 41) rfl ?_); refine goesL_ (some 70) rfl rfl Try.func41 kr_ rfl #[.int .i64 (wrap64 (x3_34 + ((rd_T37 l0 x5_1).f3)))] rfl (bc_) ?_; (with_reducible refine (spec_AmountOk.calls (wrap64 (x3_34 + ((rd_T37 l0 x5_1).f3))) false _ A37.out).mono ?_); rintro e w' ⟨rfl, ⟨nd, rfl⟩⟩; refine ⟨_, rfl, ?_⟩))
              go_ret; exact ⟨er_, bg_ GE114.out⟩
     ·
      rw [if_neg c4] at H; exact absurd H (by simp)
    ·
     rw [if_neg c3] at H; have c3b0 : decide (x5_1 < (l0.length : Int)) = false := decide_eq_false c3; clear c3; obtain rfl := Option.some.inj H; go_wp2; go_ret; exact ⟨er_, bb_⟩
end Go.Proofs.Ytomanpmffjkkgaa.P
namespace Go.Proofs.Ytomanpmffjkkgaa.P
open Go.RowKit Go.Proofs.YtomanpmffjkkgaaW.PrintWords Go.Proofs.YtomanpmffjkkgaaW.PrintLast Go.Proofs.YtomanpmffjkkgaaW.PrintMore
attribute [local go_sem] max2_int min2_int max_two min_two max_three min_three max_four min_four   -- for this text's walks alone
set_option linter.unusedVariables false
set_option linter.unusedSimpArgs false
def spec_l5Split.l0 : Nat → List (S37) → Int → Int → List (S37) → List (S37) → Int → Option ((List (S37)) × (List (S37)))
 | 0, _, _, _, _, _, _ => none
 | k + 1, x0, x1, x2, x8, x9, x10 => if x10 < (x0.length : Int) then (if 0 ≤ x10 then (if ((rd_T37 x0 x10).f0) = x1 then (if ((rd_T37 x0 x10).f1) = x2 then (if x8.length < 3518437208883 then (spec_l5Split.l0 k x0 x1 x2 (x8 ++ [(⟨(rd_T37 x0 x10).f0, (rd_T37 x0 x10).f1, (rd_T37 x0 x10).f2, (rd_T37 x0 x10).f3, (rd_T37 x0 x10).f4⟩ : S37)]) x9 (wrap64 (x10 + 1))) else (none)) else (if x9.length < 3518437208883 then (spec_l5Split.l0 k x0 x1 x2 x8 (x9 ++ [(⟨(rd_T37 x0 x10).f0, (rd_T37 x0 x10).f1, (rd_T37 x0 x10).f2, (rd_T37 x0 x10).f3, (rd_T37 x0 x10).f4⟩ : S37)]) (wrap64 (x10 + 1))) else (none))) else (if x9.length < 3518437208883 then (spec_l5Split.l0 k x0 x1 x2 x8 (x9 ++ [(⟨(rd_T37 x0 x10).f0, (rd_T37 x0 x10).f1, (rd_T37 x0 x10).f2, (rd_T37 x0 x10).f3, (rd_T37 x0 x10).f4⟩ : S37)]) (wrap64 (x10 + 1))) else (none))) else (none)) else (some (x8, x9))
def spec_l5Split.f (k : Nat) (l0 : List (S37)) (a1 : Int) (a2 : Int) : Option ((List (S37)) × (List (S37))) := spec_l5Split.l0 k l0 a1 a2 (([] : List (S37))) (([] : List (S37))) 0
set_option maxHeartbeats 8000000 in
set_option maxRecDepth 100000 in
theorem spec_l5Split.calls (k : Nat) (A0 : Option Addr) (c0 : Nat) (l0 : List (S37)) (a1 : Int) (a2 : Int) (r1 : List (S37)) (r2 : List (S37)) (w : World) (hr0 : Kd.C k37 w A0 l0.length l0) (hc0 : l0.length ≤ c0) (h : spec_l5Split.f k l0 a1 a2 = some (r1, r2)) :
 Calls Try.prog 52 #[.slice A0 l0.length c0, .int .i64 a1, .int .i64 a2] w fun e w' => ∃ v0_ v1_ : Value, e = .returned (.tuple #[v0_, v1_]) ∧ Kd.R k37 37 w' w.heap.size (fun k_ => some k_ ≠ (v1_ : Value).ownBlock) v0_ r1 ∧ Kd.R k37 37 w' w.heap.size (fun k_ => some k_ ≠ (v0_ : Value).ownBlock) v1_ r2 ∧ Below w.heap.size w w' := by
 have hu37 := Try.underlying37; have HR0 := Aside0.mk hr0; have HC0 := Aside0.mk hc0; clear hr0 hc0; have HB := Aside0.mk (Below.refl w.heap.size w); have H : (spec_l5Split.l0 k l0 a1 a2 (([] : List (S37))) (([] : List (S37))) 0) = some (r1, r2) := h; clear h; obtain ⟨y173, hy173⟩ : ∃ y_ : List (S37), y_ = (([] : List (S37))) := ⟨_, rfl⟩; replace H : (spec_l5Split.l0 k l0 a1 a2 y173 (([] : List (S37))) 0) = some (r1, r2) := rh_ hy173 H; have Ny173 := Aside0.mk hy173; clear hy173; obtain ⟨y176, hy176⟩ : ∃ y_ : List (S37), y_ = (([] : List (S37))) := ⟨_, rfl⟩; replace H : (spec_l5Split.l0 k l0 a1 a2 y173 y176 0) = some (r1, r2) := rh_ hy176 H; have Ny176 := Aside0.mk hy176; clear hy176; have H' := Aside0.mk H; clear H; go_enter Try.func52, Try.ntmps52
 go_wp2_with (first | ((with_reducible refine gate_dst (N := 11) rfl ?_); refine Kd.R_lit k37 _ 37 ?hg (N := 11) ?hd (xs := ([] : List (S37))) (inner := []) (ok := fun _ => True) (okp := fun _ => True) ?hr ?hp (fun _ hk => hk) trivial (Below.refl _ _) (Nat.le_refl _) (by simp) ?_; (case hd => rfl); (case hg => rfl); (case hr => first | (go_simp; done) | (go_simp; rfl)); (case hp => exact (Reps.none _ _)); intro v174 w4 ho5 hb hg_ hnew_; clear hg_ hnew_; (first | rw [← Ny173.out] at ho5 | (simp only [Int.reduceToNat] at ho5; rw [← Ny173.out] at ho5)); have n_ := as2_ (Kd.R_lower ho5 (below_size (bb_))) (below_step (bb_) hb); clear HB; obtain ⟨HO175, HB⟩ := n_; clear hb ho5) | ((with_reducible refine gate_dst (N := 12) rfl ?_); refine Kd.R_lit k37 _ 37 ?hg (N := 12) ?hd (xs := ([] : List (S37))) (inner := []) (ok := fun _ => True) (okp := fun _ => True) ?hr ?hp (fun _ hk => hk) trivial (Below.refl _ _) (Nat.le_refl _) (by simp) ?_; (case hd => rfl); (case hg => rfl); (case hr => first | (go_simp; done) | (go_simp; rfl)); (case hp => exact (Reps.none _ _)); intro v177 w6 ho7 hb hg_ hnew_; clear hg_ hnew_; (first | rw [← Ny176.out] at ho7 | (simp only [Int.reduceToNat] at ho7; rw [← Ny176.out] at ho7)); have n_ := as3_ (Kd.R_elder' (pe_ HO175.out) (Kd.R_base ho7) hb) (Kd.R_lower (Kd.R_new' ho7 (Kd.R_lt (pe_ HO175.out))) (below_size (bb_))) (below_step (bb_) hb); clear HO175 HB; obtain ⟨HO175, HO178, HB⟩ := n_; clear hb ho7))
 go_loopg [8, 9, 10] k (fun kq v8 v9 v10 w' => ∃ (x8_1 : List (S37)) (x9_1 : List (S37)) (x10_1 : Int), v10 = .int .i64 x10_1 ∧ Aside0 (spec_l5Split.l0 kq l0 a1 a2 x8_1 x9_1 x10_1 = some (r1, r2)) ∧ Aside0 (kq ≤ k) ∧ Aside0 (Kd.R k37 37 w' w.heap.size (fun k_ => some k_ ≠ (v9 : Value).ownBlock) v8 x8_1) ∧ Aside0 (Kd.R k37 37 w' w.heap.size (fun k_ => some k_ ≠ (v8 : Value).ownBlock) v9 x9_1) ∧ Aside0 (Below w.heap.size w w'))
 case atStart => exact ⟨(y173), (y176), (0), (rs_), H', ⟨Nat.le_refl _⟩, ⟨by (with_reducible repeat (first | apply Kd.R_alloc | apply Kd.R_drewN | apply Kd.R_drew)); exact Kd.R_mono HO175.out (fun _ hk => hk.2)⟩, ⟨by (with_reducible repeat (first | apply Kd.R_alloc | apply Kd.R_drewN | apply Kd.R_drew)); exact Kd.R_mono HO178.out (fun _ hk => hk.2)⟩, ⟨bb_⟩⟩
 case round =>
  clear H'; try clear p2
  try clear c5
  obtain ⟨x8_1, x9_1, x10_1, rfl, HA, HK1, HO_8, HO_9, HB⟩ := hrel
  cases gk with
  | zero => exact absurd HA.out (by simp [spec_l5Split.l0])
  | succ k1 =>
   have H := HA.out; clear HA; simp only [spec_l5Split.l0] at H
   by_cases c8 : x10_1 < (l0.length : Int)
   ·
    rw [if_pos c8] at H; have c8b0 : decide (x10_1 < (l0.length : Int)) = true := decide_eq_true c8; clear c8
    by_cases c9 : 0 ≤ x10_1
    ·
     rw [if_pos c9] at H; have c9b0 : decide (0 ≤ x10_1) = true := decide_eq_true c9; clear c9
     by_cases c10 : ((rd_T37 l0 x10_1).f0) = a1
     ·
      rw [if_pos c10] at H; have c10b0 : (((rd_T37 l0 x10_1).f0) == a1) = true := beq_iff_eq.mpr c10; have c10b1 : (((rd_T37 l0 x10_1).f0) != a1) = false := bne_eq_false_iff_eq.mpr c10; clear c10
      by_cases c11 : ((rd_T37 l0 x10_1).f1) = a2
      ·
       rw [if_pos c11] at H; have c11b0 : (((rd_T37 l0 x10_1).f1) == a2) = true := beq_iff_eq.mpr c11; have c11b1 : (((rd_T37 l0 x10_1).f1) != a2) = false := bne_eq_false_iff_eq.mpr c11; clear c11
       by_cases c12 : x8_1.length < 3518437208883
       ·
        rw [if_pos c12] at H; have LMc12 := Aside0.mk c12; clear c12; obtain ⟨y182, hy182⟩ : ∃ y_ : List (S37), y_ = (x8_1 ++ [(⟨(rd_T37 l0 x10_1).f0, (rd_T37 l0 x10_1).f1, (rd_T37 l0 x10_1).f2, (rd_T37 l0 x10_1).f3, (rd_T37 l0 x10_1).f4⟩ : S37)]) := ⟨_, rfl⟩; replace H : (spec_l5Split.l0 k1 l0 a1 a2 y182 x9_1 (wrap64 (x10_1 + 1))) = some (r1, r2) := rh_ hy182 H; have Ny182 := Aside0.mk hy182; clear hy182; have H' := Aside0.mk H; clear H; have p179 : 0 ≤ (x10_1 : Int) := od_; have q179 : x10_1 < (l0.length : Int) := od_; obtain ⟨ad179, e179, hx179_0, hx179_1, hx179_2, hx179_3, hx179_4⟩ := at_T37 HR0.out x10_1 p179 q179; cases e179; replace hx179_0 := cl_ HB.out hx179_0; replace hx179_1 := cl_ HB.out hx179_1; replace hx179_2 := cl_ HB.out hx179_2; replace hx179_3 := cl_ HB.out hx179_3; replace hx179_4 := cl_ HB.out hx179_4; replace p179 := eq_true p179; replace q179 := eq_true q179; have p180 : 0 ≤ (x10_1 : Int) := od_; have q180 : x10_1 < (l0.length : Int) := od_; obtain ⟨ad180, e180, hx180_0, hx180_1, hx180_2, hx180_3, hx180_4⟩ := at_T37 HR0.out x10_1 p180 q180; obtain rfl : ad179 = ad180 := (by injection e180)
        replace hx180_0 := cl_ HB.out hx180_0; replace hx180_1 := cl_ HB.out hx180_1; replace hx180_2 := cl_ HB.out hx180_2; replace hx180_3 := cl_ HB.out hx180_3; replace hx180_4 := cl_ HB.out hx180_4; replace p180 := eq_true p180; replace q180 := eq_true q180; have p181 : 0 ≤ (x10_1 : Int) := od_; have q181 : x10_1 < (l0.length : Int) := od_; obtain ⟨ad181, e181, hx181_0, hx181_1, hx181_2, hx181_3, hx181_4⟩ := at_T37 HR0.out x10_1 p181 q181; obtain rfl : ad179 = ad181 := (by injection e181)
        replace hx181_0 := cl_ HB.out hx181_0; replace hx181_1 := cl_ HB.out hx181_1; replace hx181_2 := cl_ HB.out hx181_2; replace hx181_3 := cl_ HB.out hx181_3; replace hx181_4 := cl_ HB.out hx181_4; replace p181 := eq_true p181; replace q181 := eq_true q181
        go_wp2_with (first | ((with_reducible refine gate_builtin (b := .append) (xs := #[.tmp 35, .tmp 40]) rfl ?_); at_builtin; refine Kd.R_append k37 (w0 := w) w.heap.size rfl (.tmp 35) (.tmp 40) 25 37 (.agg #[(.int .i64 0), (.int .i64 0), (.int .i64 0), (.int .i64 0), (.int .i64 0)]) 40 rfl Try.underlying25 info37 rfl (by decide) (by omega) u8 x8_1 (⟨(rd_T37 l0 x10_1).f0, (rd_T37 l0 x10_1).f1, (rd_T37 l0 x10_1).f2, (rd_T37 l0 x10_1).f3, (rd_T37 l0 x10_1).f4⟩ : S37) [.int .i64 ((rd_T37 l0 x10_1).f0), .int .i64 ((rd_T37 l0 x10_1).f1), .int .i64 ((rd_T37 l0 x10_1).f2), .int .i64 ((rd_T37 l0 x10_1).f3), .int .i64 ((rd_T37 l0 x10_1).f4)] (fun k_ => some k_ ≠ (u9 : Value).ownBlock) (fun _ => False) rfl rfl ?aP (fun _ hk => hk.elim) ?aF ?aO ?aB ?aS ?aL ?_; (case aP => exact k37_mkM _ _ _ (⟨(rd_T37 l0 x10_1).f0, (rd_T37 l0 x10_1).f1, (rd_T37 l0 x10_1).f2, (rd_T37 l0 x10_1).f3, (rd_T37 l0 x10_1).f4⟩ : S37)); (case aB => exact (bb_)); (case aF => exact (fun k_ hk => Kd.fresh' (Kd.R_lt (pe_ HO_9.out)) k_ hk)); (case aO => exact (pe_ HO_8.out)); (case aS => exact (below_size (bb_))); (case aL => have := LMc12.out; omega); intro v183 w13 ho hb hg hat; rw [← Ny182.out] at ho; have n_ := as3_ (Kd.R_after (ok := (fun _ => True)) (by (with_reducible repeat (first | apply Kd.R_alloc | apply Kd.R_drewN | apply Kd.R_drew)); exact Kd.R_mono HO_9.out (fun _ hk => ⟨trivial, hk⟩)) hg hat) (hb) (ho); clear HO_9 HB HO_8; obtain ⟨HO_9, HB, HO184⟩ := n_; clear ho hb hg hat))
        go_roundg k1
        case measure => have := HK1.out; omega
        case rel => exact ⟨(y182), (x9_1), (wrap64 (x10_1 + 1)), (rs_), H', ⟨by have := HK1.out; omega⟩, ⟨pe_ HO184.out⟩, ⟨by (with_reducible repeat (first | apply Kd.R_alloc | apply Kd.R_drewN | apply Kd.R_drew)); exact Kd.R_mono HO_9.out (fun _ hk => hk.2)⟩, ⟨bb_⟩⟩
       ·
        rw [if_neg c12] at H; exact absurd H (by simp)
      ·
       rw [if_neg c11] at H; have c11b0 : (((rd_T37 l0 x10_1).f1) == a2) = false := beq_eq_false_iff_ne.mpr c11; have c11b1 : (((rd_T37 l0 x10_1).f1) != a2) = true := bne_iff_ne.mpr c11
       by_cases c14 : x9_1.length < 3518437208883
       ·
        rw [if_pos c14] at H; have LMc14 := Aside0.mk c14; clear c14; obtain ⟨y186, hy186⟩ : ∃ y_ : List (S37), y_ = (x9_1 ++ [(⟨(rd_T37 l0 x10_1).f0, (rd_T37 l0 x10_1).f1, (rd_T37 l0 x10_1).f2, (rd_T37 l0 x10_1).f3, (rd_T37 l0 x10_1).f4⟩ : S37)]) := ⟨_, rfl⟩; replace H : (spec_l5Split.l0 k1 l0 a1 a2 x8_1 y186 (wrap64 (x10_1 + 1))) = some (r1, r2) := rh_ hy186 H; have Ny186 := Aside0.mk hy186; clear hy186; have H' := Aside0.mk H; clear H; have p179 : 0 ≤ (x10_1 : Int) := od_; have q179 : x10_1 < (l0.length : Int) := od_; obtain ⟨ad179, e179, hx179_0, hx179_1, hx179_2, hx179_3, hx179_4⟩ := at_T37 HR0.out x10_1 p179 q179; cases e179; replace hx179_0 := cl_ HB.out hx179_0; replace hx179_1 := cl_ HB.out hx179_1; replace hx179_2 := cl_ HB.out hx179_2; replace hx179_3 := cl_ HB.out hx179_3; replace hx179_4 := cl_ HB.out hx179_4; replace p179 := eq_true p179; replace q179 := eq_true q179; have p180 : 0 ≤ (x10_1 : Int) := od_; have q180 : x10_1 < (l0.length : Int) := od_; obtain ⟨ad180, e180, hx180_0, hx180_1, hx180_2, hx180_3, hx180_4⟩ := at_T37 HR0.out x10_1 p180 q180; obtain rfl : ad179 = ad180 := (by injection e180)
        replace hx180_0 := cl_ HB.out hx180_0; replace hx180_1 := cl_ HB.out hx180_1; replace hx180_2 := cl_ HB.out hx180_2; replace hx180_3 := cl_ HB.out hx180_3; replace hx180_4 := cl_ HB.out hx180_4; replace p180 := eq_true p180; replace q180 := eq_true q180; have p185 : 0 ≤ (x10_1 : Int) := od_; have q185 : x10_1 < (l0.length : Int) := od_; obtain ⟨ad185, e185, hx185_0, hx185_1, hx185_2, hx185_3, hx185_4⟩ := at_T37 HR0.out x10_1 p185 q185; obtain rfl : ad179 = ad185 := (by injection e185)
        replace hx185_0 := cl_ HB.out hx185_0; replace hx185_1 := cl_ HB.out hx185_1; replace hx185_2 := cl_ HB.out hx185_2; replace hx185_3 := cl_ HB.out hx185_3; replace hx185_4 := cl_ HB.out hx185_4; replace p185 := eq_true p185; replace q185 := eq_true q185
        go_wp2_with (first | ((with_reducible refine gate_builtin (b := .append) (xs := #[.tmp 42, .tmp 47]) rfl ?_); at_builtin; refine Kd.R_append k37 (w0 := w) w.heap.size rfl (.tmp 42) (.tmp 47) 25 37 (.agg #[(.int .i64 0), (.int .i64 0), (.int .i64 0), (.int .i64 0), (.int .i64 0)]) 40 rfl Try.underlying25 info37 rfl (by decide) (by omega) u9 x9_1 (⟨(rd_T37 l0 x10_1).f0, (rd_T37 l0 x10_1).f1, (rd_T37 l0 x10_1).f2, (rd_T37 l0 x10_1).f3, (rd_T37 l0 x10_1).f4⟩ : S37) [.int .i64 ((rd_T37 l0 x10_1).f0), .int .i64 ((rd_T37 l0 x10_1).f1), .int .i64 ((rd_T37 l0 x10_1).f2), .int .i64 ((rd_T37 l0 x10_1).f3), .int .i64 ((rd_T37 l0 x10_1).f4)] (fun k_ => some k_ ≠ (u8 : Value).ownBlock) (fun _ => False) rfl rfl ?aP (fun _ hk => hk.elim) ?aF ?aO ?aB ?aS ?aL ?_; (case aP => exact k37_mkM _ _ _ (⟨(rd_T37 l0 x10_1).f0, (rd_T37 l0 x10_1).f1, (rd_T37 l0 x10_1).f2, (rd_T37 l0 x10_1).f3, (rd_T37 l0 x10_1).f4⟩ : S37)); (case aB => exact (bb_)); (case aF => exact (fun k_ hk => Kd.fresh' (Kd.R_lt (pe_ HO_8.out)) k_ hk)); (case aO => exact (pe_ HO_9.out)); (case aS => exact (below_size (bb_))); (case aL => have := LMc14.out; omega); intro v187 w15 ho hb hg hat; rw [← Ny186.out] at ho; have n_ := as3_ (Kd.R_after (ok := (fun _ => True)) (by (with_reducible repeat (first | apply Kd.R_alloc | apply Kd.R_drewN | apply Kd.R_drew)); exact Kd.R_mono HO_8.out (fun _ hk => ⟨trivial, hk⟩)) hg hat) (hb) (ho); clear HO_8 HB HO_9; obtain ⟨HO_8, HB, HO188⟩ := n_; clear ho hb hg hat))
        go_roundg k1
        case measure => have := HK1.out; omega
        case rel => exact ⟨(x8_1), (y186), (wrap64 (x10_1 + 1)), (rs_), H', ⟨by have := HK1.out; omega⟩, ⟨by (with_reducible repeat (first | apply Kd.R_alloc | apply Kd.R_drewN | apply Kd.R_drew)); exact Kd.R_mono HO_8.out (fun _ hk => hk.2)⟩, ⟨pe_ HO188.out⟩, ⟨bb_⟩⟩
       ·
        rw [if_neg c14] at H; exact absurd H (by simp)
     ·
      rw [if_neg c10] at H; have c10b0 : (((rd_T37 l0 x10_1).f0) == a1) = false := beq_eq_false_iff_ne.mpr c10; have c10b1 : (((rd_T37 l0 x10_1).f0) != a1) = true := bne_iff_ne.mpr c10
      by_cases c16 : x9_1.length < 3518437208883
      ·
       rw [if_pos c16] at H; have LMc16 := Aside0.mk c16; clear c16; obtain ⟨y190, hy190⟩ : ∃ y_ : List (S37), y_ = (x9_1 ++ [(⟨(rd_T37 l0 x10_1).f0, (rd_T37 l0 x10_1).f1, (rd_T37 l0 x10_1).f2, (rd_T37 l0 x10_1).f3, (rd_T37 l0 x10_1).f4⟩ : S37)]) := ⟨_, rfl⟩; replace H : (spec_l5Split.l0 k1 l0 a1 a2 x8_1 y190 (wrap64 (x10_1 + 1))) = some (r1, r2) := rh_ hy190 H; have Ny190 := Aside0.mk hy190; clear hy190; have H' := Aside0.mk H; clear H; have p179 : 0 ≤ (x10_1 : Int) := od_; have q179 : x10_1 < (l0.length : Int) := od_; obtain ⟨ad179, e179, hx179_0, hx179_1, hx179_2, hx179_3, hx179_4⟩ := at_T37 HR0.out x10_1 p179 q179; cases e179; replace hx179_0 := cl_ HB.out hx179_0; replace hx179_1 := cl_ HB.out hx179_1; replace hx179_2 := cl_ HB.out hx179_2; replace hx179_3 := cl_ HB.out hx179_3; replace hx179_4 := cl_ HB.out hx179_4; replace p179 := eq_true p179; replace q179 := eq_true q179; have p189 : 0 ≤ (x10_1 : Int) := od_; have q189 : x10_1 < (l0.length : Int) := od_; obtain ⟨ad189, e189, hx189_0, hx189_1, hx189_2, hx189_3, hx189_4⟩ := at_T37 HR0.out x10_1 p189 q189; obtain rfl : ad179 = ad189 := (by injection e189)
       replace hx189_0 := cl_ HB.out hx189_0; replace hx189_1 := cl_ HB.out hx189_1; replace hx189_2 := cl_ HB.out hx189_2; replace hx189_3 := cl_ HB.out hx189_3; replace hx189_4 := cl_ HB.out hx189_4; replace p189 := eq_true p189; replace q189 := eq_true q189
       go_wp2_with (first | ((with_reducible refine gate_builtin (b := .append) (xs := #[.tmp 42, .tmp 47]) rfl ?_); at_builtin; refine Kd.R_append k37 (w0 := w) w.heap.size rfl (.tmp 42) (.tmp 47) 25 37 (.agg #[(.int .i64 0), (.int .i64 0), (.int .i64 0), (.int .i64 0), (.int .i64 0)]) 40 rfl Try.underlying25 info37 rfl (by decide) (by omega) u9 x9_1 (⟨(rd_T37 l0 x10_1).f0, (rd_T37 l0 x10_1).f1, (rd_T37 l0 x10_1).f2, (rd_T37 l0 x10_1).f3, (rd_T37 l0 x10_1).f4⟩ : S37) [.int .i64 ((rd_T37 l0 x10_1).f0), .int .i64 ((rd_T37 l0 x10_1).f1), .int .i64 ((rd_T37 l0 x10_1).f2), .int .i64 ((rd_T37 l0 x10_1).f3), .int .i64 ((rd_T37 l0 x10_1).f4)] (fun k_ => some k_ ≠ (u8 : Value).ownBlock) (fun _ => False) rfl rfl ?aP (fun _ hk => hk.elim) ?aF ?aO ?aB ?aS ?aL ?_; (case aP => exact k37_mkM _ _ _ (⟨(rd_T37 l0 x10_1).f0, (rd_T37 l0 x10_1).f1, (rd_T37 l0 x10_1).f2, (rd_T37 l0 x10_1).f3, (rd_T37 l0 x10_1).f4⟩ : S37)); (case aB => exact (bb_)); (case aF => exact (fun k_ hk => Kd.fresh' (Kd.R_lt (pe_ HO_8.out)) k_ hk)); (case aO => exact (pe_ HO_9.out)); (case aS => exact (below_size (bb_))); (case aL => have := LMc16.out; omega); intro v191 w17 ho hb hg hat; rw [← Ny190.out] at ho; have n_ := as3_ (Kd.R_after (ok := (fun _ => True)) (by (with_reducible repeat (first | apply Kd.R_alloc | apply Kd.R_drewN | apply Kd.R_drew)); exact Kd.R_mono HO_8.out (fun _ hk => ⟨trivial, hk⟩)) hg hat) (hb) (ho); clear HO_8 HB HO_9; obtain ⟨HO_8, HB, HO192⟩ := n_; clear ho hb hg hat))
       go_roundg k1
       case measure => have := HK1.out; omega
       case rel => exact ⟨(x8_1), (y190), (wrap64 (x10_1 + 1)), (rs_), H', ⟨by have := HK1.out; omega⟩, ⟨by (with_reducible repeat (first | apply Kd.R_alloc | apply Kd.R_drewN | apply Kd.R_drew)); exact Kd.R_mono HO_8.out (fun _ hk => hk.2)⟩, ⟨pe_ HO192.out⟩, ⟨bb_⟩⟩
      ·
       rw [if_neg c16] at H; exact absurd H (by simp)
    ·
     rw [if_neg c9] at H; exact absurd H (by simp)
   ·
    rw [if_neg c8] at H; have c8b0 : decide (x10_1 < (l0.length : Int)) = false := decide_eq_false c8; clear c8; simp only [Option.some.injEq, Prod.mk.injEq] at H; obtain ⟨rfl, rfl⟩ := H; go_wp2; go_ret2; exact ⟨_, _, er_, pe_ HO_8.out, pe_ HO_9.out, bb_⟩
def spec_LotsOf.f (k : Nat) (l0 : List (S37)) (a1 : Int) (a2 : Int) : Option ((List (S37))) := (spec_LotsOk.f k l0).bind fun t193 => (if t193 = true then ((spec_l5Split.f k l0 a1 a2).bind fun bt194 => (some bt194.1)) else (some (([] : List (S37)))))
set_option maxHeartbeats 8000000 in
set_option maxRecDepth 100000 in
theorem spec_LotsOf.calls (k : Nat) (A0 : Option Addr) (c0 : Nat) (l0 : List (S37)) (a1 : Int) (a2 : Int) (r : List (S37)) (w : World) (hr0 : Kd.C k37 w A0 l0.length l0) (hc0 : l0.length ≤ c0) (h : spec_LotsOf.f k l0 a1 a2 = some r) :
 Calls Try.prog 23 #[.slice A0 l0.length c0, .int .i64 a1, .int .i64 a2] w fun e w' => ∃ v0_ : Value, e = .returned (v0_) ∧ Kd.R k37 37 w' w.heap.size (fun _ => True) v0_ r ∧ Below w.heap.size w w' := by
 have HR0 := Aside0.mk hr0; have HC0 := Aside0.mk hc0; clear hr0 hc0; have HB := Aside0.mk (Below.refl w.heap.size w); have H : ((spec_LotsOk.f k l0).bind fun t193 => (if t193 = true then ((spec_l5Split.f k l0 a1 a2).bind fun bt194 => (some bt194.1)) else (some (([] : List (S37)))))) = some r := h; clear h; replace H := Option.bind_eq_some_iff.mp H; obtain ⟨t193, A40, H⟩ := H; have A4 := Aside0.mk A40; clear A40
 by_cases c5 : t193 = true
 ·
  subst c5; replace H := Eq.trans (if_pos rfl).symm H; replace H := Option.bind_eq_some_iff.mp H; obtain ⟨⟨t194, t195⟩, A60, H⟩ := H; replace H : (some t194) = some r := H; have A6 := Aside0.mk A60; clear A60; obtain rfl := Option.some.inj H; go_enter Try.func23, Try.ntmps23; go_wp2_with (first | ((with_reducible refine gate_callee (f := 15) rfl ?_); refine goesL_ (some 10) rfl rfl Try.func15 kr_ rfl #[.slice A0 l0.length c0] rfl (bc_) ?_; (with_reducible refine (spec_LotsOk.calls k _ _ l0 true _ ?side1 ?side2 A4.out).mono ?_); (case side1 => exact cc_ HR0.out); (case side2 => exact HC0.out); rintro e w7 ⟨rfl, hb⟩; refine ⟨_, rfl, ?_⟩; replace HB := Aside0.mk (below_step (bb_) hb); (try clear hb)) | ((with_reducible refine gate_callee (f := 52) rfl ?_); refine goesL_ (some 17) rfl rfl Try.func52 kr_ rfl #[.slice A0 l0.length c0, .int .i64 a1, .int .i64 a2] rfl (bc_) ?_; (with_reducible refine (spec_l5Split.calls k _ _ l0 a1 a2 t194 t195 _ ?side1 ?side2 A6.out).mono ?_); (case side1 => exact cc_ (Kd.C_below HR0.out HB.out)); (case side2 => exact HC0.out); rintro e w8 ⟨v196, v198, rfl, ho0, ho1, hb⟩; refine ⟨_, rfl, ?_⟩; have n_ := as3_ (Kd.R_lower ho0 (below_size (bb_))) (Kd.R_lower ho1 (below_size (bb_))) (below_step (bb_) hb); clear HB; obtain ⟨HO197, HO199, HB⟩ := n_; (try clear hb); (try clear ho0); (try clear ho1)))
  go_ret; exact ⟨_, er_, by (with_reducible repeat (first | apply Kd.R_alloc | apply Kd.R_drewN | apply Kd.R_drew)); exact Kd.R_mono HO197.out (fun _ hk => trivial), bb_⟩
 ·
  replace c5 := Bool.eq_false_iff.mpr c5; subst c5; replace H := Eq.trans (if_neg nf_).symm H; obtain ⟨y200, hy200⟩ : ∃ y_ : List (S37), y_ = (([] : List (S37))) := ⟨_, rfl⟩; replace H : (some y200) = some r := rh_ hy200 H; have Ny200 := Aside0.mk hy200; clear hy200; obtain rfl := Option.some.inj H; go_enter Try.func23, Try.ntmps23; go_wp2_with (first | ((with_reducible refine gate_callee (f := 15) rfl ?_); refine goesL_ (some 10) rfl rfl Try.func15 kr_ rfl #[.slice A0 l0.length c0] rfl (bc_) ?_; (with_reducible refine (spec_LotsOk.calls k _ _ l0 false _ ?side1 ?side2 A4.out).mono ?_); (case side1 => exact cc_ HR0.out); (case side2 => exact HC0.out); rintro e w9 ⟨rfl, hb⟩; refine ⟨_, rfl, ?_⟩; replace HB := Aside0.mk (below_step (bb_) hb); (try clear hb)) | ((with_reducible refine gate_dst (N := 12) rfl ?_); refine Kd.R_lit k37 _ 37 ?hg (N := 12) ?hd (xs := ([] : List (S37))) (inner := []) (ok := fun _ => True) (okp := fun _ => True) ?hr ?hp (fun _ hk => hk) trivial (Below.refl _ _) (Nat.le_refl _) (by simp) ?_; (case hd => rfl); (case hg => rfl); (case hr => first | (go_simp; done) | (go_simp; rfl)); (case hp => exact (Reps.none _ _)); intro v201 w10 ho11 hb hg_ hnew_; clear hg_ hnew_; (first | rw [← Ny200.out] at ho11 | (simp only [Int.reduceToNat] at ho11; rw [← Ny200.out] at ho11)); have n_ := as2_ (Kd.R_lower ho11 (below_size (bb_))) (below_step (bb_) hb); clear HB; obtain ⟨HO202, HB⟩ := n_; clear hb ho11))
  go_ret; exact ⟨_, er_, pe_ HO202.out, bb_⟩
end Go.Proofs.Ytomanpmffjkkgaa.P
namespace Go.Proofs.Ytomanpmffjkkgaa.P
open Go.RowKit Go.Proofs.YtomanpmffjkkgaaW.PrintWords Go.Proofs.YtomanpmffjkkgaaW.PrintLast Go.Proofs.YtomanpmffjkkgaaW.PrintMore
attribute [local go_sem] max2_int min2_int max_two min_two max_three min_three max_four min_four   -- for this text's walks alone
set_option linter.unusedVariables false
set_option linter.unusedSimpArgs false
def spec_l5Qty.l0 : Nat → List (S37) → Int → Int → Option (Int)
 | 0, _, _, _ => none
 | k + 1, x0, x3, x4 => if x4 < (x0.length : Int) then (if 0 ≤ x4 then (spec_l5Qty.l0 k x0 (wrap64 (x3 + ((rd_T37 x0 x4).f3))) (wrap64 (x4 + 1))) else (none)) else (some x3)
def spec_l5Qty.f (k : Nat) (l0 : List (S37)) : Option (Int) := spec_l5Qty.l0 k l0 0 0
set_option maxHeartbeats 8000000 in
set_option maxRecDepth 100000 in
theorem spec_l5Qty.calls (k : Nat) (A0 : Option Addr) (c0 : Nat) (l0 : List (S37)) (r : Int) (w : World) (hr0 : Kd.C k37 w A0 l0.length l0) (hc0 : l0.length ≤ c0) (h : spec_l5Qty.f k l0 = some r) :
 Calls Try.prog 50 #[.slice A0 l0.length c0] w fun e w' => e = .returned (.int .i64 r) ∧ Drawn0 w w' := by
 have HR0 := Aside0.mk hr0; have HC0 := Aside0.mk hc0; clear hr0 hc0; have H : (spec_l5Qty.l0 k l0 0 0) = some r := h; clear h; have H' := Aside0.mk H; clear H; go_enter Try.func50, Try.ntmps50; go_wp2; go_loopg [3, 4] k (fun kq v3 v4 w' => ∃ (x3_1 : Int) (x4_1 : Int), v3 = .int .i64 x3_1 ∧ v4 = .int .i64 x4_1 ∧ Aside0 (spec_l5Qty.l0 kq l0 x3_1 x4_1 = some r) ∧ Aside0 (kq ≤ k) ∧ Drawn0 w w')
 case atStart => exact ⟨(0), (0), (rs_), (rs_), H', ⟨Nat.le_refl _⟩, dr_⟩
 case round =>
  clear H'; obtain ⟨x3_1, x4_1, rfl, rfl, HA, HK1, ⟨m1, rfl⟩⟩ := hrel
  cases gk with
  | zero => exact absurd HA.out (by simp [spec_l5Qty.l0])
  | succ k1 =>
   have H := HA.out; clear HA; simp only [spec_l5Qty.l0] at H
   by_cases c2 : x4_1 < (l0.length : Int)
   ·
    rw [if_pos c2] at H; have c2b0 : decide (x4_1 < (l0.length : Int)) = true := decide_eq_true c2; clear c2
    by_cases c3 : 0 ≤ x4_1
    ·
     rw [if_pos c3] at H; have c3b0 : decide (0 ≤ x4_1) = true := decide_eq_true c3; clear c3; have H' := Aside0.mk H; clear H; have p203 : 0 ≤ (x4_1 : Int) := od_; have q203 : x4_1 < (l0.length : Int) := od_; obtain ⟨ad203, e203, hx203_0, hx203_1, hx203_2, hx203_3, hx203_4⟩ := at_T37 HR0.out x4_1 p203 q203; cases e203; replace p203 := eq_true p203; replace q203 := eq_true q203; go_wp2; go_roundg k1
     case measure => have := HK1.out; omega
     case rel => exact ⟨(wrap64 (x3_1 + ((rd_T37 l0 x4_1).f3))), (wrap64 (x4_1 + 1)), (rs_), (rs_), H', ⟨by have := HK1.out; omega⟩, dr_⟩
    ·
     rw [if_neg c3] at H; exact absurd H (by simp)
   ·
    rw [if_neg c2] at H; have c2b0 : decide (x4_1 < (l0.length : Int)) = false := decide_eq_false c2; clear c2; obtain rfl := Option.some.inj H; go_wp2; go_ret; exact ⟨rs_, dr_⟩
def spec_LotsQty.f (k : Nat) (l0 : List (S37)) (a1 : Int) (a2 : Int) : Option (Int) := (spec_LotsOf.f k l0 a1 a2).bind fun t204 => ((spec_l5Qty.f k t204).bind fun t207 => (some t207))
set_option maxHeartbeats 8000000 in
set_option maxRecDepth 100000 in
theorem spec_LotsQty.calls (k : Nat) (A0 : Option Addr) (c0 : Nat) (l0 : List (S37)) (a1 : Int) (a2 : Int) (r : Int) (w : World) (hr0 : Kd.C k37 w A0 l0.length l0) (hc0 : l0.length ≤ c0) (h : spec_LotsQty.f k l0 a1 a2 = some r) :
 Calls Try.prog 19 #[.slice A0 l0.length c0, .int .i64 a1, .int .i64 a2] w fun e w' => e = .returned (.int .i64 r) ∧ Below w.heap.size w w' := by
 have HR0 := Aside0.mk hr0; have HC0 := Aside0.mk hc0; clear hr0 hc0; have HB := Aside0.mk (Below.refl w.heap.size w); have H : ((spec_LotsOf.f k l0 a1 a2).bind fun t204 => ((spec_l5Qty.f k t204).bind fun t207 => (some t207))) = some r := h; clear h; replace H := Option.bind_eq_some_iff.mp H; obtain ⟨t204, A40, H⟩ := H; have A4 := Aside0.mk A40; clear A40; replace H := Option.bind_eq_some_iff.mp H; obtain ⟨t207, A50, H⟩ := H; have A5 := Aside0.mk A50; clear A50; obtain rfl := Option.some.inj H; go_enter Try.func19, Try.ntmps19
 go_wp2_with (first | ((with_reducible refine gate_callee (f := 23) rfl ?_); refine goesL_ (some 10) rfl rfl Try.func23 kr_ rfl #[.slice A0 l0.length c0, .int .i64 a1, .int .i64 a2] rfl (bc_) ?_; (with_reducible refine (spec_LotsOf.calls k _ _ l0 a1 a2 t204 _ ?side1 ?side2 A4.out).mono ?_); (case side1 => exact cc_ HR0.out); (case side2 => exact HC0.out); rintro e w6 ⟨v205, rfl, ho0, hb⟩; refine ⟨_, rfl, ?_⟩; have n_ := as2_ (Kd.R_lower ho0 (below_size (bb_))) (below_step (bb_) hb); clear HB; obtain ⟨HO206, HB⟩ := n_; (try clear hb); (try clear ho0); obtain ⟨Ao7, co7, eo7⟩ := Kd.R_slice HO206.out; subst eo7) | ((with_reducible refine gate_callee (f := 50) rfl ?_); refine goesL_ (some 11) rfl rfl Try.func50 kr_ rfl #[.slice Ao7 t204.length co7] rfl (bc_) ?_; (with_reducible refine (spec_l5Qty.calls k _ _ t204 t207 _ ?side1 ?side2 A5.out).mono ?_); (case side1 => exact cc_ (Kd.R_reads' HO206.out).2.2); (case side2 => exact (Kd.R_reads' HO206.out).2.1); rintro e w' ⟨rfl, ⟨nd, rfl⟩⟩; refine ⟨_, rfl, ?_⟩))
 go_ret; exact ⟨er_, bb_⟩
def impl_LotsOf.f (l0 : List (S37)) (a1 : Int) (a2 : Int) : Option ((List (S37))) := (impl_LotsOk.f l0).bind fun t208 => (if t208 = true then ((impl_lotsOf.f l0 a1 a2).bind fun t209 => (some t209)) else (some ([] : List (S37))))
set_option maxHeartbeats 8000000 in
set_option maxRecDepth 100000 in
theorem impl_LotsOf.calls (A0 : Option Addr) (c0 : Nat) (l0 : List (S37)) (a1 : Int) (a2 : Int) (r : List (S37)) (w : World) (hr0 : Kd.C k37 w A0 l0.length l0) (hc0 : l0.length ≤ c0) (h : impl_LotsOf.f l0 a1 a2 = some r) :
 Calls Try.prog 24 #[.slice A0 l0.length c0, .int .i64 a1, .int .i64 a2] w fun e w' => ∃ v0_ : Value, e = .returned (v0_) ∧ Kd.R k37 37 w' w.heap.size (fun _ => True) v0_ r ∧ Below w.heap.size w w' := by
 have HR0 := Aside0.mk hr0; have HC0 := Aside0.mk hc0; clear hr0 hc0; have HB := Aside0.mk (Below.refl w.heap.size w); have H : ((impl_LotsOk.f l0).bind fun t208 => (if t208 = true then ((impl_lotsOf.f l0 a1 a2).bind fun t209 => (some t209)) else (some ([] : List (S37))))) = some r := h; clear h; replace H := Option.bind_eq_some_iff.mp H; obtain ⟨t208, A40, H⟩ := H; have A4 := Aside0.mk A40; clear A40
 by_cases c5 : t208 = true
 ·
  subst c5; replace H := Eq.trans (if_pos rfl).symm H; replace H := Option.bind_eq_some_iff.mp H; obtain ⟨t209, A60, H⟩ := H; have A6 := Aside0.mk A60; clear A60; obtain rfl := Option.some.inj H; go_enter Try.func24, Try.ntmps24; go_wp2_with (first | ((with_reducible refine gate_callee (f := 17) rfl ?_); refine goesL_ (some 8) rfl rfl Try.func17 kr_ rfl #[.slice A0 l0.length c0] rfl (bc_) ?_; (with_reducible refine (impl_LotsOk.calls _ _ l0 true _ ?side1 ?side2 A4.out).mono ?_); (case side1 => exact cc_ HR0.out); (case side2 => exact HC0.out); rintro e w7 ⟨rfl, hb⟩; refine ⟨_, rfl, ?_⟩; replace HB := Aside0.mk (below_step (bb_) hb); (try clear hb)) | ((with_reducible refine gate_callee (f := 47) rfl ?_); refine goesL_ (some 13) rfl rfl Try.func47 kr_ rfl #[.slice A0 l0.length c0, .int .i64 a1, .int .i64 a2] rfl (bc_) ?_; (with_reducible refine (impl_lotsOf.calls _ _ l0 a1 a2 t209 _ ?side1 ?side2 A6.out).mono ?_); (case side1 => exact cc_ (Kd.C_below HR0.out HB.out)); (case side2 => exact HC0.out); rintro e w8 ⟨v210, rfl, ho0, hb⟩; refine ⟨_, rfl, ?_⟩; have n_ := as2_ (Kd.R_lower ho0 (below_size (bb_))) (below_step (bb_) hb); clear HB; obtain ⟨HO211, HB⟩ := n_; (try clear hb); (try clear ho0)))
  go_ret; exact ⟨_, er_, pe_ HO211.out, bb_⟩
 ·
  replace c5 := Bool.eq_false_iff.mpr c5; subst c5; replace H := Eq.trans (if_neg nf_).symm H; obtain rfl := Option.some.inj H; go_enter Try.func24, Try.ntmps24; go_wp2_with (first | ((with_reducible refine gate_callee (f := 17) rfl ?_); refine goesL_ (some 8) rfl rfl Try.func17 kr_ rfl #[.slice A0 l0.length c0] rfl (bc_) ?_; (with_reducible refine (impl_LotsOk.calls _ _ l0 false _ ?side1 ?side2 A4.out).mono ?_); (case side1 => exact cc_ HR0.out); (case side2 => exact HC0.out); rintro e w9 ⟨rfl, hb⟩; refine ⟨_, rfl, ?_⟩; replace HB := Aside0.mk (below_step (bb_) hb); (try clear hb)))
  go_ret; exact ⟨_, er_, by first | exact Kd.R_nil _ _ _ _ _ | exact Kd.N_nil _ _ _ _ _ | exact Kd.V_nil _ _ _ _ _ | exact Kd.Q_nil _ _ _ _ _ | exact Kd.S_nil _ _ _ _ _, bb_⟩
def impl_LotsQty.f (k : Nat) (l0 : List (S37)) (a1 : Int) (a2 : Int) : Option (Int) := (impl_LotsOf.f l0 a1 a2).bind fun t212 => ((impl_sumLots.f k t212).bind fun bt215 => (some bt215.1))
set_option maxHeartbeats 8000000 in
set_option maxRecDepth 100000 in
theorem impl_LotsQty.calls (k : Nat) (A0 : Option Addr) (c0 : Nat) (l0 : List (S37)) (a1 : Int) (a2 : Int) (r : Int) (w : World) (hr0 : Kd.C k37 w A0 l0.length l0) (hc0 : l0.length ≤ c0) (h : impl_LotsQty.f k l0 a1 a2 = some r) :
 Calls Try.prog 20 #[.slice A0 l0.length c0, .int .i64 a1, .int .i64 a2] w fun e w' => e = .returned (.int .i64 r) ∧ Below w.heap.size w w' := by
 have HR0 := Aside0.mk hr0; have HC0 := Aside0.mk hc0; clear hr0 hc0; have HB := Aside0.mk (Below.refl w.heap.size w); have H : ((impl_LotsOf.f l0 a1 a2).bind fun t212 => ((impl_sumLots.f k t212).bind fun bt215 => (some bt215.1))) = some r := h; clear h; replace H := Option.bind_eq_some_iff.mp H; obtain ⟨t212, A40, H⟩ := H; have A4 := Aside0.mk A40; clear A40; replace H := Option.bind_eq_some_iff.mp H; obtain ⟨⟨t215, t216⟩, A50, H⟩ := H; replace H : (some t215) = some r := H; have A5 := Aside0.mk A50; clear A50; obtain rfl := Option.some.inj H; go_enter Try.func20, Try.ntmps20
 go_wp2_with (first | ((with_reducible refine gate_callee (f := 24) rfl ?_); refine goesL_ (some 13) rfl rfl Try.func24 kr_ rfl #[.slice A0 l0.length c0, .int .i64 a1, .int .i64 a2] rfl (bc_) ?_; (with_reducible refine (impl_LotsOf.calls _ _ l0 a1 a2 t212 _ ?side1 ?side2 A4.out).mono ?_); (case side1 => exact cc_ HR0.out); (case side2 => exact HC0.out); rintro e w6 ⟨v213, rfl, ho0, hb⟩; refine ⟨_, rfl, ?_⟩; have n_ := as2_ (Kd.R_lower ho0 (below_size (bb_))) (below_step (bb_) hb); clear HB; obtain ⟨HO214, HB⟩ := n_; (try clear hb); (try clear ho0); obtain ⟨Ao7, co7, eo7⟩ := Kd.R_slice HO214.out; subst eo7) | ((with_reducible refine gate_callee (f := 46) rfl ?_); refine goesL_ (some 14) rfl rfl Try.func46 kr_ rfl #[.slice Ao7 t212.length co7] rfl (bc_) ?_; (with_reducible refine (impl_sumLots.calls k _ _ t212 t215 t216 _ ?side1 ?side2 A5.out).mono ?_); (case side1 => exact cc_ (Kd.R_reads' HO214.out).2.2); (case side2 => exact (Kd.R_reads' HO214.out).2.1); rintro e w8 ⟨rfl, hb⟩; refine ⟨_, rfl, ?_⟩; have n_ := as2_ (Kd.R_below (pe_ HO214.out) hb) (below_step (bb_) hb); clear HO214 HB; obtain ⟨HO214, HB⟩ := n_; (try clear hb)))
 go_ret; exact ⟨er_, bb_⟩
def spec_l5Cost.l0 : Nat → List (S37) → Int → Int → Option (Int)
 | 0, _, _, _ => none
 | k + 1, x0, x3, x4 => if x4 < (x0.length : Int) then (if 0 ≤ x4 then (spec_l5Cost.l0 k x0 (wrap64 (x3 + ((rd_T37 x0 x4).f4))) (wrap64 (x4 + 1))) else (none)) else (some x3)
def spec_l5Cost.f (k : Nat) (l0 : List (S37)) : Option (Int) := spec_l5Cost.l0 k l0 0 0
set_option maxHeartbeats 8000000 in
set_option maxRecDepth 100000 in
theorem spec_l5Cost.calls (k : Nat) (A0 : Option Addr) (c0 : Nat) (l0 : List (S37)) (r : Int) (w : World) (hr0 : Kd.C k37 w A0 l0.length l0) (hc0 : l0.length ≤ c0) (h : spec_l5Cost.f k l0 = some r) :
 Calls Try.prog 51 #[.slice A0 l0.length c0] w fun e w' => e = .returned (.int .i64 r) ∧ Drawn0 w w' := by
 have HR0 := Aside0.mk hr0; have HC0 := Aside0.mk hc0; clear hr0 hc0; have H : (spec_l5Cost.l0 k l0 0 0) = some r := h; clear h; have H' := Aside0.mk H; clear H; go_enter Try.func51, Try.ntmps51; go_wp2; go_loopg [3, 4] k (fun kq v3 v4 w' => ∃ (x3_1 : Int) (x4_1 : Int), v3 = .int .i64 x3_1 ∧ v4 = .int .i64 x4_1 ∧ Aside0 (spec_l5Cost.l0 kq l0 x3_1 x4_1 = some r) ∧ Aside0 (kq ≤ k) ∧ Drawn0 w w')
 case atStart => exact ⟨(0), (0), (rs_), (rs_), H', ⟨Nat.le_refl _⟩, dr_⟩
 case round =>
  clear H'; obtain ⟨x3_1, x4_1, rfl, rfl, HA, HK1, ⟨m1, rfl⟩⟩ := hrel
  cases gk with
  | zero => exact absurd HA.out (by simp [spec_l5Cost.l0])
  | succ k1 =>
   have H := HA.out; clear HA; simp only [spec_l5Cost.l0] at H
   by_cases c2 : x4_1 < (l0.length : Int)
   ·
    rw [if_pos c2] at H; have c2b0 : decide (x4_1 < (l0.length : Int)) = true := decide_eq_true c2; clear c2
    by_cases c3 : 0 ≤ x4_1
    ·
     rw [if_pos c3] at H; have c3b0 : decide (0 ≤ x4_1) = true := decide_eq_true c3; clear c3; have H' := Aside0.mk H; clear H; have p230 : 0 ≤ (x4_1 : Int) := od_; have q230 : x4_1 < (l0.length : Int) := od_; obtain ⟨ad230, e230, hx230_0, hx230_1, hx230_2, hx230_3, hx230_4⟩ := at_T37 HR0.out x4_1 p230 q230; cases e230; replace p230 := eq_true p230; replace q230 := eq_true q230; go_wp2; go_roundg k1
     case measure => have := HK1.out; omega
     case rel => exact ⟨(wrap64 (x3_1 + ((rd_T37 l0 x4_1).f4))), (wrap64 (x4_1 + 1)), (rs_), (rs_), H', ⟨by have := HK1.out; omega⟩, dr_⟩
    ·
     rw [if_neg c3] at H; exact absurd H (by simp)
   ·
    rw [if_neg c2] at H; have c2b0 : decide (x4_1 < (l0.length : Int)) = false := decide_eq_false c2; clear c2; obtain rfl := Option.some.inj H; go_wp2; go_ret; exact ⟨rs_, dr_⟩
def spec_LotsCost.f (k : Nat) (l0 : List (S37)) (a1 : Int) (a2 : Int) : Option (Int) := (spec_LotsOf.f k l0 a1 a2).bind fun t231 => ((spec_l5Cost.f k t231).bind fun t234 => (some t234))
set_option maxHeartbeats 8000000 in
set_option maxRecDepth 100000 in
theorem spec_LotsCost.calls (k : Nat) (A0 : Option Addr) (c0 : Nat) (l0 : List (S37)) (a1 : Int) (a2 : Int) (r : Int) (w : World) (hr0 : Kd.C k37 w A0 l0.length l0) (hc0 : l0.length ≤ c0) (h : spec_LotsCost.f k l0 a1 a2 = some r) :
 Calls Try.prog 21 #[.slice A0 l0.length c0, .int .i64 a1, .int .i64 a2] w fun e w' => e = .returned (.int .i64 r) ∧ Below w.heap.size w w' := by
 have HR0 := Aside0.mk hr0; have HC0 := Aside0.mk hc0; clear hr0 hc0; have HB := Aside0.mk (Below.refl w.heap.size w); have H : ((spec_LotsOf.f k l0 a1 a2).bind fun t231 => ((spec_l5Cost.f k t231).bind fun t234 => (some t234))) = some r := h; clear h; replace H := Option.bind_eq_some_iff.mp H; obtain ⟨t231, A40, H⟩ := H; have A4 := Aside0.mk A40; clear A40; replace H := Option.bind_eq_some_iff.mp H; obtain ⟨t234, A50, H⟩ := H; have A5 := Aside0.mk A50; clear A50; obtain rfl := Option.some.inj H; go_enter Try.func21, Try.ntmps21
 go_wp2_with (first | ((with_reducible refine gate_callee (f := 23) rfl ?_); refine goesL_ (some 10) rfl rfl Try.func23 kr_ rfl #[.slice A0 l0.length c0, .int .i64 a1, .int .i64 a2] rfl (bc_) ?_; (with_reducible refine (spec_LotsOf.calls k _ _ l0 a1 a2 t231 _ ?side1 ?side2 A4.out).mono ?_); (case side1 => exact cc_ HR0.out); (case side2 => exact HC0.out); rintro e w6 ⟨v232, rfl, ho0, hb⟩; refine ⟨_, rfl, ?_⟩; have n_ := as2_ (Kd.R_lower ho0 (below_size (bb_))) (below_step (bb_) hb); clear HB; obtain ⟨HO233, HB⟩ := n_; (try clear hb); (try clear ho0); obtain ⟨Ao7, co7, eo7⟩ := Kd.R_slice HO233.out; subst eo7) | ((with_reducible refine gate_callee (f := 51) rfl ?_); refine goesL_ (some 11) rfl rfl Try.func51 kr_ rfl #[.slice Ao7 t231.length co7] rfl (bc_) ?_; (with_reducible refine (spec_l5Cost.calls k _ _ t231 t234 _ ?side1 ?side2 A5.out).mono ?_); (case side1 => exact cc_ (Kd.R_reads' HO233.out).2.2); (case side2 => exact (Kd.R_reads' HO233.out).2.1); rintro e w' ⟨rfl, ⟨nd, rfl⟩⟩; refine ⟨_, rfl, ?_⟩))
 go_ret; exact ⟨er_, bb_⟩
def impl_LotsCost.f (k : Nat) (l0 : List (S37)) (a1 : Int) (a2 : Int) : Option (Int) := (impl_LotsOf.f l0 a1 a2).bind fun t235 => ((impl_sumLots.f k t235).bind fun bt238 => (some bt238.2))
set_option maxHeartbeats 8000000 in
set_option maxRecDepth 100000 in
theorem impl_LotsCost.calls (k : Nat) (A0 : Option Addr) (c0 : Nat) (l0 : List (S37)) (a1 : Int) (a2 : Int) (r : Int) (w : World) (hr0 : Kd.C k37 w A0 l0.length l0) (hc0 : l0.length ≤ c0) (h : impl_LotsCost.f k l0 a1 a2 = some r) :
 Calls Try.prog 22 #[.slice A0 l0.length c0, .int .i64 a1, .int .i64 a2] w fun e w' => e = .returned (.int .i64 r) ∧ Below w.heap.size w w' := by
 have HR0 := Aside0.mk hr0; have HC0 := Aside0.mk hc0; clear hr0 hc0; have HB := Aside0.mk (Below.refl w.heap.size w); have H : ((impl_LotsOf.f l0 a1 a2).bind fun t235 => ((impl_sumLots.f k t235).bind fun bt238 => (some bt238.2))) = some r := h; clear h; replace H := Option.bind_eq_some_iff.mp H; obtain ⟨t235, A40, H⟩ := H; have A4 := Aside0.mk A40; clear A40; replace H := Option.bind_eq_some_iff.mp H; obtain ⟨⟨t238, t239⟩, A50, H⟩ := H; replace H : (some t239) = some r := H; have A5 := Aside0.mk A50; clear A50; obtain rfl := Option.some.inj H; go_enter Try.func22, Try.ntmps22
 go_wp2_with (first | ((with_reducible refine gate_callee (f := 24) rfl ?_); refine goesL_ (some 13) rfl rfl Try.func24 kr_ rfl #[.slice A0 l0.length c0, .int .i64 a1, .int .i64 a2] rfl (bc_) ?_; (with_reducible refine (impl_LotsOf.calls _ _ l0 a1 a2 t235 _ ?side1 ?side2 A4.out).mono ?_); (case side1 => exact cc_ HR0.out); (case side2 => exact HC0.out); rintro e w6 ⟨v236, rfl, ho0, hb⟩; refine ⟨_, rfl, ?_⟩; have n_ := as2_ (Kd.R_lower ho0 (below_size (bb_))) (below_step (bb_) hb); clear HB; obtain ⟨HO237, HB⟩ := n_; (try clear hb); (try clear ho0); obtain ⟨Ao7, co7, eo7⟩ := Kd.R_slice HO237.out; subst eo7) | ((with_reducible refine gate_callee (f := 46) rfl ?_); refine goesL_ (some 14) rfl rfl Try.func46 kr_ rfl #[.slice Ao7 t235.length co7] rfl (bc_) ?_; (with_reducible refine (impl_sumLots.calls k _ _ t235 t238 t239 _ ?side1 ?side2 A5.out).mono ?_); (case side1 => exact cc_ (Kd.R_reads' HO237.out).2.2); (case side2 => exact (Kd.R_reads' HO237.out).2.1); rintro e w8 ⟨rfl, hb⟩; refine ⟨_, rfl, ?_⟩; have n_ := as2_ (Kd.R_below (pe_ HO237.out) hb) (below_step (bb_) hb); clear HO237 HB; obtain ⟨HO237, HB⟩ := n_; (try clear hb)))
 go_ret; exact ⟨er_, bb_⟩
end Go.Proofs.Ytomanpmffjkkgaa.P
namespace Go.Proofs.Ytomanpmffjkkgaa.P
open Go.RowKit Go.Proofs.YtomanpmffjkkgaaW.PrintWords Go.Proofs.YtomanpmffjkkgaaW.PrintLast Go.Proofs.YtomanpmffjkkgaaW.PrintMore
attribute [local go_sem] max2_int min2_int max_two min_two max_three min_three max_four min_four   -- for this text's walks alone
set_option linter.unusedVariables false
set_option linter.unusedSimpArgs false
mutual
def spec_l5Merge.l0 : Nat → List (S37) → List (S37) → List (S37) → Int → Int → Option ((List (S37)))
 | 0, _, _, _, _, _ => none
 | k + 1, x0, x1, x5, x6, x7 => if x6 < (x0.length : Int) then (spec_l5Merge.j1 k x0 x1 x5 x6 x7 true) else (spec_l5Merge.j1 k x0 x1 x5 x6 x7 (decide (x7 < (x1.length : Int))))
def spec_l5Merge.j1 : Nat → List (S37) → List (S37) → List (S37) → Int → Int → Bool → Option ((List (S37)))
 | 0, _, _, _, _, _, _ => none
 | k + 1, x0, x1, x5, x6, x7, x18 => if x18 = true then (if x7 = (x1.length : Int) then (if 0 ≤ x6 then (if x6 < (x0.length : Int) then (if x5.length < 3518437208883 then (spec_l5Merge.l0 k x0 x1 (x5 ++ [(⟨(rd_T37 x0 x6).f0, (rd_T37 x0 x6).f1, (rd_T37 x0 x6).f2, (rd_T37 x0 x6).f3, (rd_T37 x0 x6).f4⟩ : S37)]) (wrap64 (x6 + 1)) x7) else (none)) else (none)) else (none)) else (if x6 < (x0.length : Int) then (if 0 ≤ x6 then (if 0 ≤ x7 then (if x7 < (x1.length : Int) then ((spec_l5Before.f ((rd_T37 x0 x6).f0) ((rd_T37 x0 x6).f1) ((rd_T37 x0 x6).f2) ((rd_T37 x0 x6).f3) ((rd_T37 x0 x6).f4) ((rd_T37 x1 x7).f0) ((rd_T37 x1 x7).f1) ((rd_T37 x1 x7).f2) ((rd_T37 x1 x7).f3) ((rd_T37 x1 x7).f4)).bind fun t304 => (if t304 = true then (if x5.length < 3518437208883 then (spec_l5Merge.l0 k x0 x1 (x5 ++ [(⟨(rd_T37 x0 x6).f0, (rd_T37 x0 x6).f1, (rd_T37 x0 x6).f2, (rd_T37 x0 x6).f3, (rd_T37 x0 x6).f4⟩ : S37)]) (wrap64 (x6 + 1)) x7) else (none)) else (if x5.length < 3518437208883 then (spec_l5Merge.l0 k x0 x1 (x5 ++ [(⟨(rd_T37 x1 x7).f0, (rd_T37 x1 x7).f1, (rd_T37 x1 x7).f2, (rd_T37 x1 x7).f3, (rd_T37 x1 x7).f4⟩ : S37)]) x6 (wrap64 (x7 + 1))) else (none)))) else (none)) else (none)) else (none)) else (if 0 ≤ x7 then (if x7 < (x1.length : Int) then (if x5.length < 3518437208883 then (spec_l5Merge.l0 k x0 x1 (x5 ++ [(⟨(rd_T37 x1 x7).f0, (rd_T37 x1 x7).f1, (rd_T37 x1 x7).f2, (rd_T37 x1 x7).f3, (rd_T37 x1 x7).f4⟩ : S37)]) x6 (wrap64 (x7 + 1))) else (none)) else (none)) else (none)))) else (some x5)
end
def spec_l5Merge.f (k : Nat) (l0 : List (S37)) (l1 : List (S37)) : Option ((List (S37))) := spec_l5Merge.l0 k l0 l1 (([] : List (S37))) 0 0
def spec_l5Merge.T4 : Bool × List (List Nat × List Nat) := (true, [([], []), ([], []), ([1], [1]), ([0, 2], [0, 2]), ([3], [3]), ([4], [4]), ([4], [4]), ([6, 4], [4, 6]), ([5, 7, 4], [4, 5, 7]), ([8, 4, 4], [4, 8]), ([9], [9]), ([9], [9]), ([10, 11, 9], [9, 10, 11]), ([12, 9], [9, 12]), ([9], [9]), ([9], [9]), ([14, 15, 9], [9, 14, 15]), ([16, 9], [9, 16]), ([13, 17, 9, 9], [9, 13, 17]), ([9, 18, 4], [4, 9, 18]), ([4, 19], [4, 19])])
def spec_l5Merge.B4 : List Nat := [0, 0, 2, 7, 15, 31, 31, 95, 255, 511, 1023, 1023, 4095, 8191, 1023, 1023, 50175, 115711, 262143, 524287, 1048575]
theorem spec_l5Merge.tab4 : rtab .any (opsOf Try.f53 4) = spec_l5Merge.T4 := by kernel_rfl
theorem spec_l5Merge.bits4 : waitsOk spec_l5Merge.T4.2 spec_l5Merge.B4 = true := by kernel_rfl
set_option maxHeartbeats 8000000 in
set_option maxRecDepth 100000 in
theorem spec_l5Merge.calls (k : Nat) (A0 : Option Addr) (c0 : Nat) (l0 : List (S37)) (A1 : Option Addr) (c1 : Nat) (l1 : List (S37)) (r : List (S37)) (w : World) (hr0 : Kd.C k37 w A0 l0.length l0) (hc0 : l0.length ≤ c0) (hr1 : Kd.C k37 w A1 l1.length l1) (hc1 : l1.length ≤ c1) (h : spec_l5Merge.f k l0 l1 = some r) :
 Calls Try.prog 53 #[.slice A0 l0.length c0, .slice A1 l1.length c1] w fun e w' => ∃ v0_ : Value, e = .returned (v0_) ∧ Kd.R k37 37 w' w.heap.size (fun _ => True) v0_ r ∧ Below w.heap.size w w' := by
 have hu37 := Try.underlying37; have HR0 := Aside0.mk hr0; have HC0 := Aside0.mk hc0; clear hr0 hc0; have HR1 := Aside0.mk hr1; have HC1 := Aside0.mk hc1; clear hr1 hc1; have HB := Aside0.mk (Below.refl w.heap.size w); have H : (spec_l5Merge.l0 k l0 l1 (([] : List (S37))) 0 0) = some r := h; clear h; obtain ⟨y295, hy295⟩ : ∃ y_ : List (S37), y_ = (([] : List (S37))) := ⟨_, rfl⟩; replace H : (spec_l5Merge.l0 k l0 l1 y295 0 0) = some r := rh_ hy295 H; have Ny295 := Aside0.mk hy295; clear hy295; have H' := Aside0.mk H; clear H; go_enter Try.func53, Try.ntmps53; go_wp2_with (first | ((with_reducible refine gate_dst (N := 8) rfl ?_); (try (refine gate_guard (by rfl) ?_; dsimp only)); refine Kd.R_lit k37 _ 37 ?hg (N := 8) ?hd (xs := ([] : List (S37))) (inner := []) (ok := fun _ => True) (okp := fun _ => True) ?hr ?hp (fun _ hk => hk) trivial (Below.refl _ _) (Nat.le_refl _) (by simp) ?_; (case hd => rfl); (case hg => rfl); (case hr => first | (go_simp; done) | (go_simp; rfl)); (case hp => exact (Reps.none _ _)); intro v296 w3 ho4 hb hg_ hnew_; clear hg_ hnew_; (first | rw [← Ny295.out] at ho4 | (simp only [Int.reduceToNat] at ho4; rw [← Ny295.out] at ho4)); have n_ := as2_ (Kd.R_lower ho4 (below_size (bb_))) (below_step (bb_) hb); clear HB; obtain ⟨HO297, HB⟩ := n_; clear hb ho4))
 go_loopg [5, 6, 7] k (fun kq v5 v6 v7 w' => ∃ (x5_1 : List (S37)) (x6_1 : Int) (x7_1 : Int), v6 = .int .i64 x6_1 ∧ v7 = .int .i64 x7_1 ∧ Aside0 (spec_l5Merge.l0 kq l0 l1 x5_1 x6_1 x7_1 = some r) ∧ Aside0 (kq ≤ k) ∧ Aside0 (Kd.R k37 37 w' w.heap.size (fun _ => True) v5 x5_1) ∧ Aside0 (Below w.heap.size w w'))
 case atStart => exact ⟨(y295), (0), (0), (rs_), (rs_), H', ⟨Nat.le_refl _⟩, ⟨pe_ HO297.out⟩, ⟨bb_⟩⟩
 case round =>
  clear H'; try clear c1
  try clear p2
  obtain ⟨x5_1, x6_1, x7_1, rfl, rfl, HA, HK1, HO_5, HB⟩ := hrel
  cases gk with
  | zero => exact absurd HA.out (by simp [spec_l5Merge.l0])
  | succ k1 =>
   have H := HA.out; clear HA; simp only [spec_l5Merge.l0] at H; have HC5 := Aside0.mk H; clear H; go_upto_region 3 with (fail)
   go_cut [18] (fun v18 wc => ∃ (kq : Nat) (x18_4 : Bool), v18 = .bool x18_4 ∧ Aside0 (spec_l5Merge.j1 kq l0 l1 x5_1 x6_1 x7_1 x18_4 = some r) ∧ Aside0 (kq ≤ k1) ∧ Aside0 (Kd.R k37 37 wc w.heap.size (fun _ => True) u5 x5_1) ∧ Aside0 (Below w.heap.size w wc))
   case first =>
    have H := HC5.out; clear HC5
    by_cases c6 : x6_1 < (l0.length : Int)
    ·
     rw [if_pos c6] at H; have c6b0 : decide (x6_1 < (l0.length : Int)) = true := decide_eq_true c6; clear c6; (first | rw [c6b0] | (simp only [i64_w, i32_w]; rw [c6b0]) | skip)
     have H' := Aside0.mk H; clear H; go_wp2; go_meet
     case rel => exact ⟨_, (true), (rs_), H', ⟨by have := HK1.out; first | omega | exact Nat.le_refl _⟩, ⟨pe_ HO_5.out⟩, ⟨bb_⟩⟩
    ·
     rw [if_neg c6] at H; have c6b0 : decide (x6_1 < (l0.length : Int)) = false := decide_eq_false c6; clear c6; (first | rw [c6b0] | (simp only [i64_w, i32_w]; rw [c6b0]) | skip)
     have H' := Aside0.mk H; clear H; go_wp2; go_meet
     case rel => exact ⟨_, (decide (x7_1 < (l1.length : Int))), (rs_), H', ⟨by have := HK1.out; first | omega | exact Nat.le_refl _⟩, ⟨pe_ HO_5.out⟩, ⟨bb_⟩⟩
   case rest =>
    clear HC5; (try clear c1); (try clear p2); (try clear c5); (try clear c6b0); (try clear p2); obtain ⟨kq, x18_4, rfl, HA, HJ4, HO_5, HB⟩ := hcut
    cases kq with
    | zero => exact absurd HA.out (by simp [spec_l5Merge.j1])
    | succ kj4 =>
     have H := HA.out; clear HA; simp only [spec_l5Merge.j1] at H
     by_cases c7 : x18_4 = true
     ·
      subst c7; replace H := Eq.trans (if_pos rfl).symm H
      by_cases c8 : x7_1 = (l1.length : Int)
      ·
       rw [if_pos c8] at H; have c8b0 : (x7_1 == (l1.length : Int)) = true := beq_iff_eq.mpr c8; have c8b1 : (x7_1 != (l1.length : Int)) = false := bne_eq_false_iff_eq.mpr c8; clear c8
       by_cases c9 : 0 ≤ x6_1
       ·
        rw [if_pos c9] at H; have c9b0 : decide (0 ≤ x6_1) = true := decide_eq_true c9; clear c9
        by_cases c10 : x6_1 < (l0.length : Int)
        ·
         rw [if_pos c10] at H; have c10b0 : decide (x6_1 < (l0.length : Int)) = true := decide_eq_true c10; clear c10
         by_cases c11 : x5_1.length < 3518437208883
         ·
          rw [if_pos c11] at H; have LMc11 := Aside0.mk c11; clear c11; obtain ⟨y299, hy299⟩ : ∃ y_ : List (S37), y_ = (x5_1 ++ [(⟨(rd_T37 l0 x6_1).f0, (rd_T37 l0 x6_1).f1, (rd_T37 l0 x6_1).f2, (rd_T37 l0 x6_1).f3, (rd_T37 l0 x6_1).f4⟩ : S37)]) := ⟨_, rfl⟩; replace H : (spec_l5Merge.l0 kj4 l0 l1 y299 (wrap64 (x6_1 + 1)) x7_1) = some r := rh_ hy299 H; have Ny299 := Aside0.mk hy299; clear hy299; have H' := Aside0.mk H; clear H; try go_wp2
          have n_ := as2_ (Kd.R_drew HO_5.out) (below_drew1 HB.out); clear HO_5 HB; obtain ⟨HO_5, HB⟩ := n_; refine start_ (n := 21) (S := fun w' => True) (ds := []) (ba_ 21 0) kr_ rfl rfl trivial (fun hHeld => ?_); refine with_tabW spec_l5Merge.tab4 spec_l5Merge.bits4 (fun HT_ HW_ => ?_)
          generalize wc.drew = w12 at HO_5 HB hHeld ⊢
          refine pu_ 0 19 HT_.out (ba_ 21 1) ?_; refine pu_ 1 20 HT_.out (ba_ 21 3) ?_; refine pu_ 2 21 HT_.out (ba_ 21 7) ?_; refine pu_ 3 22 HT_.out (ba_ 21 15) ?_; refine pu_ 4 23 HT_.out (ba_ 21 31) ?_; refine sk_ 5 24 HT_.out (ba_ 21 63) ?_; refine sk_ 6 25 HT_.out (ba_ 21 127) ?_; refine sk_ 7 26 HT_.out (ba_ 21 255) ?_; refine sk_ 8 27 HT_.out (ba_ 21 511) ?_; refine sk_ 9 28 HT_.out (ba_ 21 1023) ?_; refine sk_ 10 29 HT_.out (ba_ 21 2047) ?_; refine sk_ 11 30 HT_.out (ba_ 21 4095) ?_; refine sk_ 12 31 HT_.out (ba_ 21 8191) ?_; refine sk_ 13 32 HT_.out (ba_ 21 16383) ?_; refine sk_ 14 33 HT_.out (ba_ 21 32767) ?_; refine sk_ 15 34 HT_.out (ba_ 21 65535) ?_; refine sk_ 16 35 HT_.out (ba_ 21 131071) ?_; refine sk_ 17 36 HT_.out (ba_ 21 262143) ?_; refine sk_ 18 37 HT_.out (ba_ 21 524287) ?_; refine sk_ 19 38 HT_.out (ba_ 21 1048575) ?_; refine pu_ 20 39 HT_.out (ba_ 21 2097151) ?_; refine done_ (done_of HT_.out kr_) ?_
          have p298 : 0 ≤ (x6_1 : Int) := od_; have q298 : x6_1 < (l0.length : Int) := od_; obtain ⟨ad298, e298, hx298_0, hx298_1, hx298_2, hx298_3, hx298_4⟩ := at_T37 HR0.out x6_1 p298 q298; cases e298; replace hx298_0 := cl_ HB.out hx298_0; replace hx298_1 := cl_ HB.out hx298_1; replace hx298_2 := cl_ HB.out hx298_2; replace hx298_3 := cl_ HB.out hx298_3; replace hx298_4 := cl_ HB.out hx298_4; replace p298 := eq_true p298; replace q298 := eq_true q298
          try go_wp2_with (first | ((with_reducible refine gate_builtin (b := .append) (xs := #[.tmp 40, .tmp 45]) rfl ?_); (try (refine gate_guard (by rfl) ?_; dsimp only)); at_builtin; refine Kd.R_append k37 (w0 := w) w.heap.size rfl (.tmp 40) (.tmp 45) 25 37 (.agg #[(.int .i64 0), (.int .i64 0), (.int .i64 0), (.int .i64 0), (.int .i64 0)]) 40 rfl Try.underlying25 info37 rfl (by decide) (by omega) u5 x5_1 (⟨(rd_T37 l0 x6_1).f0, (rd_T37 l0 x6_1).f1, (rd_T37 l0 x6_1).f2, (rd_T37 l0 x6_1).f3, (rd_T37 l0 x6_1).f4⟩ : S37) [.int .i64 ((rd_T37 l0 x6_1).f0), .int .i64 ((rd_T37 l0 x6_1).f1), .int .i64 ((rd_T37 l0 x6_1).f2), .int .i64 ((rd_T37 l0 x6_1).f3), .int .i64 ((rd_T37 l0 x6_1).f4)] (fun _ => True) (fun _ => False) rfl rfl ?aP (fun _ hk => hk.elim) ?aF ?aO ?aB ?aS ?aL ?_; (case aP => exact k37_mkM _ _ _ (⟨(rd_T37 l0 x6_1).f0, (rd_T37 l0 x6_1).f1, (rd_T37 l0 x6_1).f2, (rd_T37 l0 x6_1).f3, (rd_T37 l0 x6_1).f4⟩ : S37)); (case aB => exact (bb_)); (case aF => exact (fun _ _ => trivial)); (case aO => exact (pe_ HO_5.out)); (case aS => exact (below_size (bb_))); (case aL => have := LMc11.out; omega); intro v300 w13 ho hb hg hat; rw [← Ny299.out] at ho; have n_ := as2_ (hb) (ho); clear HB HO_5; obtain ⟨HB, HO301⟩ := n_; clear ho hb hg hat))
          go_roundg kj4
          case measure => have := HK1.out; have := HJ4.out; omega
          case rel => exact ⟨(y299), (wrap64 (x6_1 + 1)), (x7_1), (rs_), (rs_), H', ⟨by have := HK1.out; have := HJ4.out; omega⟩, ⟨pe_ HO301.out⟩, ⟨bb_⟩⟩
         ·
          rw [if_neg c11] at H; exact absurd H (by simp)
        ·
         rw [if_neg c10] at H; exact absurd H (by simp)
       ·
        rw [if_neg c9] at H; exact absurd H (by simp)
      ·
       rw [if_neg c8] at H; have c8b0 : (x7_1 == (l1.length : Int)) = false := beq_eq_false_iff_ne.mpr c8; have c8b1 : (x7_1 != (l1.length : Int)) = true := bne_iff_ne.mpr c8
       by_cases c14 : x6_1 < (l0.length : Int)
       ·
        rw [if_pos c14] at H; have c14b0 : decide (x6_1 < (l0.length : Int)) = true := decide_eq_true c14; clear c14
        by_cases c15 : 0 ≤ x6_1
        ·
         rw [if_pos c15] at H; have c15b0 : decide (0 ≤ x6_1) = true := decide_eq_true c15; clear c15
         by_cases c16 : 0 ≤ x7_1
         ·
          rw [if_pos c16] at H; have c16b0 : decide (0 ≤ x7_1) = true := decide_eq_true c16; clear c16
          by_cases c17 : x7_1 < (l1.length : Int)
          ·
           rw [if_pos c17] at H; have c17b0 : decide (x7_1 < (l1.length : Int)) = true := decide_eq_true c17; clear c17; replace H := Option.bind_eq_some_iff.mp H; obtain ⟨t304, A180, H⟩ := H; have A18 := Aside0.mk A180; clear A180
           by_cases c19 : t304 = true
           ·
            subst c19; replace H := Eq.trans (if_pos rfl).symm H
            by_cases c20 : x5_1.length < 3518437208883
            ·
             rw [if_pos c20] at H; have LMc20 := Aside0.mk c20; clear c20; obtain ⟨y306, hy306⟩ : ∃ y_ : List (S37), y_ = (x5_1 ++ [(⟨(rd_T37 l0 x6_1).f0, (rd_T37 l0 x6_1).f1, (rd_T37 l0 x6_1).f2, (rd_T37 l0 x6_1).f3, (rd_T37 l0 x6_1).f4⟩ : S37)]) := ⟨_, rfl⟩; replace H : (spec_l5Merge.l0 kj4 l0 l1 y306 (wrap64 (x6_1 + 1)) x7_1) = some r := rh_ hy306 H; have Ny306 := Aside0.mk hy306; clear hy306; have H' := Aside0.mk H; clear H; try go_wp2
             have n_ := as2_ (Kd.R_drew HO_5.out) (below_drew1 HB.out); clear HO_5 HB; obtain ⟨HO_5, HB⟩ := n_; have p302 : 0 ≤ (x6_1 : Int) := od_; have q302 : x6_1 < (l0.length : Int) := od_; obtain ⟨ad302, e302, hx302_0, hx302_1, hx302_2, hx302_3, hx302_4⟩ := at_T37 HR0.out x6_1 p302 q302; have hw302_4 := hx302_4; have hw302_3 := hx302_3; have hw302_2 := hx302_2; have hw302_1 := hx302_1; have hw302_0 := hx302_0; cases e302; replace hx302_0 := cl_ HB.out hx302_0; replace hx302_1 := cl_ HB.out hx302_1; replace hx302_2 := cl_ HB.out hx302_2; replace hx302_3 := cl_ HB.out hx302_3; replace hx302_4 := cl_ HB.out hx302_4; replace p302 := eq_true p302; replace q302 := eq_true q302; have p303 : 0 ≤ (x7_1 : Int) := od_; have q303 : x7_1 < (l1.length : Int) := od_; obtain ⟨ad303, e303, hx303_0, hx303_1, hx303_2, hx303_3, hx303_4⟩ := at_T37 HR1.out x7_1 p303 q303; have hw303_4 := hx303_4; have hw303_3 := hx303_3; have hw303_2 := hx303_2; have hw303_1 := hx303_1; have hw303_0 := hx303_0; cases e303; replace hx303_0 := cl_ HB.out hx303_0; replace hx303_1 := cl_ HB.out hx303_1; replace hx303_2 := cl_ HB.out hx303_2; replace hx303_3 := cl_ HB.out hx303_3; replace hx303_4 := cl_ HB.out hx303_4; replace p303 := eq_true p303; replace q303 := eq_true q303
             refine start_ (n := 21) (S := fun w' => w'.cell? (ad302.add ((x6_1).toNat * 5)) = some (.int .i64 ((rd_T37 l0 x6_1).f0)) ∧ w'.cell? ⟨(ad302.add ((x6_1).toNat * 5)).block, (ad302.add ((x6_1).toNat * 5)).off + 1, none⟩ = some (.int .i64 ((rd_T37 l0 x6_1).f1)) ∧ w'.cell? ⟨(ad302.add ((x6_1).toNat * 5)).block, (ad302.add ((x6_1).toNat * 5)).off + 2, none⟩ = some (.int .i64 ((rd_T37 l0 x6_1).f2)) ∧ w'.cell? ⟨(ad302.add ((x6_1).toNat * 5)).block, (ad302.add ((x6_1).toNat * 5)).off + 3, none⟩ = some (.int .i64 ((rd_T37 l0 x6_1).f3)) ∧ w'.cell? ⟨(ad302.add ((x6_1).toNat * 5)).block, (ad302.add ((x6_1).toNat * 5)).off + 4, none⟩ = some (.int .i64 ((rd_T37 l0 x6_1).f4)) ∧ w'.cell? (ad303.add ((x7_1).toNat * 5)) = some (.int .i64 ((rd_T37 l1 x7_1).f0)) ∧ w'.cell? ⟨(ad303.add ((x7_1).toNat * 5)).block, (ad303.add ((x7_1).toNat * 5)).off + 1, none⟩ = some (.int .i64 ((rd_T37 l1 x7_1).f1)) ∧ w'.cell? ⟨(ad303.add ((x7_1).toNat * 5)).block, (ad303.add ((x7_1).toNat * 5)).off + 2, none⟩ = some (.int .i64 ((rd_T37 l1 x7_1).f2)) ∧ w'.cell? ⟨(ad303.add ((x7_1).toNat * 5)).block, (ad303.add ((x7_1).toNat * 5)).off + 3, none⟩ = some (.int .i64 ((rd_T37 l1 x7_1).f3)) ∧ w'.cell? ⟨(ad303.add ((x7_1).toNat * 5)).block, (ad303.add ((x7_1).toNat * 5)).off + 4, none⟩ = some (.int .i64 ((rd_T37 l1 x7_1).f4))) (ds := []) (ba_ 21 0) kr_ rfl rfl ⟨((HB.out.cell (World.block_lt_of_cell? w _ hw302_0)).trans hw302_0), ((HB.out.cell (World.block_lt_of_cell? w _ hw302_1)).trans hw302_1), ((HB.out.cell (World.block_lt_of_cell? w _ hw302_2)).trans hw302_2), ((HB.out.cell (World.block_lt_of_cell? w _ hw302_3)).trans hw302_3), ((HB.out.cell (World.block_lt_of_cell? w _ hw302_4)).trans hw302_4), ((HB.out.cell (World.block_lt_of_cell? w _ hw303_0)).trans hw303_0), ((HB.out.cell (World.block_lt_of_cell? w _ hw303_1)).trans hw303_1), ((HB.out.cell (World.block_lt_of_cell? w _ hw303_2)).trans hw303_2), ((HB.out.cell (World.block_lt_of_cell? w _ hw303_3)).trans hw303_3), ((HB.out.cell (World.block_lt_of_cell? w _ hw303_4)).trans hw303_4)⟩ (fun hHeld => ?_); refine with_tabW spec_l5Merge.tab4 spec_l5Merge.bits4 (fun HT_ HW_ => ?_)
             generalize wc.drew = w21 at HO_5 HB hx302_0 hx302_1 hx302_2 hx302_3 hx302_4 hx303_0 hx303_1 hx303_2 hx303_3 hx303_4 hHeld ⊢
             refine pu_ 0 19 HT_.out (ba_ 21 1) ?_; refine pu_ 1 20 HT_.out (ba_ 21 3) ?_; refine pu_ 2 21 HT_.out (ba_ 21 7) ?_; refine pu_ 3 22 HT_.out (ba_ 21 15) ?_; refine pu_ 4 23 HT_.out (ba_ 21 31) ?_; refine pu_ 5 24 HT_.out (ba_ 21 63) ?_; refine pu_ 6 25 HT_.out (ba_ 21 127) ?_; refine pu_ 7 26 HT_.out (ba_ 21 255) ?_; refine pu_ 8 27 HT_.out (ba_ 21 511) ?_; refine pu_ 9 28 HT_.out (ba_ 21 1023) ?_; refine pu_ 10 29 HT_.out (ba_ 21 2047) ?_; refine pu_ 11 30 HT_.out (ba_ 21 4095) ?_; refine pu_ 12 31 HT_.out (ba_ 21 8191) ?_; refine pu_ 14 33 HT_.out (ba_ 21 24575) ?_; refine pu_ 15 34 HT_.out (ba_ 21 57343) ?_; refine pu_ 16 35 HT_.out (ba_ 21 122879) ?_; refine ta_ 13 32 HT_.out HW_.out hHeld (ba_ 21 131071) ?_; refine ta_ 17 36 HT_.out HW_.out hHeld (ba_ 21 262143) ?_; refine one_ (i := 18) (N := some 37) (ba_ 21 524287) rfl rfl (one_of HT_.out kr_) (by decide) (fun K hK => ?_)
             refine goes_ Try.func40 kr_ rfl #[.agg #[.int .i64 ((rd_T37 l0 x6_1).f0), .int .i64 ((rd_T37 l0 x6_1).f1), .int .i64 ((rd_T37 l0 x6_1).f2), .int .i64 ((rd_T37 l0 x6_1).f3), .int .i64 ((rd_T37 l0 x6_1).f4)], .agg #[.int .i64 ((rd_T37 l1 x7_1).f0), .int .i64 ((rd_T37 l1 x7_1).f1), .int .i64 ((rd_T37 l1 x7_1).f2), .int .i64 ((rd_T37 l1 x7_1).f3), .int .i64 ((rd_T37 l1 x7_1).f4)]] (by rfl) rfl rfl (bc_) ?_
             with_reducible refine (spec_l5Before.calls ((rd_T37 l0 x6_1).f0) ((rd_T37 l0 x6_1).f1) ((rd_T37 l0 x6_1).f2) ((rd_T37 l0 x6_1).f3) ((rd_T37 l0 x6_1).f4) ((rd_T37 l1 x7_1).f0) ((rd_T37 l1 x7_1).f1) ((rd_T37 l1 x7_1).f2) ((rd_T37 l1 x7_1).f3) ((rd_T37 l1 x7_1).f4) true _ A18.out).mono ?_
             rintro e w22 ⟨rfl, hb⟩; refine ⟨_, rfl, ?_⟩
             have n_ := as2_ (Kd.R_below (pe_ HO_5.out) hb) (below_step (bb_) hb); clear HO_5 HB; obtain ⟨HO_5, HB⟩ := n_
             
             
             
             
             refine hK.out _ _ ⟨((HB.out.cell (World.block_lt_of_cell? w _ hw302_0)).trans hw302_0), ((HB.out.cell (World.block_lt_of_cell? w _ hw302_1)).trans hw302_1), ((HB.out.cell (World.block_lt_of_cell? w _ hw302_2)).trans hw302_2), ((HB.out.cell (World.block_lt_of_cell? w _ hw302_3)).trans hw302_3), ((HB.out.cell (World.block_lt_of_cell? w _ hw302_4)).trans hw302_4), ((HB.out.cell (World.block_lt_of_cell? w _ hw303_0)).trans hw303_0), ((HB.out.cell (World.block_lt_of_cell? w _ hw303_1)).trans hw303_1), ((HB.out.cell (World.block_lt_of_cell? w _ hw303_2)).trans hw303_2), ((HB.out.cell (World.block_lt_of_cell? w _ hw303_3)).trans hw303_3), ((HB.out.cell (World.block_lt_of_cell? w _ hw303_4)).trans hw303_4)⟩ (fun hHeld => ?_)
             clear hK K; refine norm_ (a' := ?_) ?_ ?_
             rotate_left
             ·
              show Act.put _ (some 37) _ = _
              exact sp_
             refine pu_ 19 38 HT_.out (ba_ 21 1048575) ?_; refine pu_ 20 39 HT_.out (ba_ 21 2097151) ?_; refine done_ (done_of HT_.out kr_) ?_
             have p305 : 0 ≤ (x6_1 : Int) := od_; have q305 : x6_1 < (l0.length : Int) := od_; obtain ⟨ad305, e305, hx305_0, hx305_1, hx305_2, hx305_3, hx305_4⟩ := at_T37 HR0.out x6_1 p305 q305; obtain rfl : ad302 = ad305 := (by injection e305)
             replace hx305_0 := cl_ HB.out hx305_0; replace hx305_1 := cl_ HB.out hx305_1; replace hx305_2 := cl_ HB.out hx305_2; replace hx305_3 := cl_ HB.out hx305_3; replace hx305_4 := cl_ HB.out hx305_4; replace p305 := eq_true p305; replace q305 := eq_true q305
             try go_wp2_with (first | ((with_reducible refine gate_builtin (b := .append) (xs := #[.tmp 40, .tmp 45]) rfl ?_); (try (refine gate_guard (by rfl) ?_; dsimp only)); at_builtin; refine Kd.R_append k37 (w0 := w) w.heap.size rfl (.tmp 40) (.tmp 45) 25 37 (.agg #[(.int .i64 0), (.int .i64 0), (.int .i64 0), (.int .i64 0), (.int .i64 0)]) 40 rfl Try.underlying25 info37 rfl (by decide) (by omega) u5 x5_1 (⟨(rd_T37 l0 x6_1).f0, (rd_T37 l0 x6_1).f1, (rd_T37 l0 x6_1).f2, (rd_T37 l0 x6_1).f3, (rd_T37 l0 x6_1).f4⟩ : S37) [.int .i64 ((rd_T37 l0 x6_1).f0), .int .i64 ((rd_T37 l0 x6_1).f1), .int .i64 ((rd_T37 l0 x6_1).f2), .int .i64 ((rd_T37 l0 x6_1).f3), .int .i64 ((rd_T37 l0 x6_1).f4)] (fun _ => True) (fun _ => False) rfl rfl ?aP (fun _ hk => hk.elim) ?aF ?aO ?aB ?aS ?aL ?_; (case aP => exact k37_mkM _ _ _ (⟨(rd_T37 l0 x6_1).f0, (rd_T37 l0 x6_1).f1, (rd_T37 l0 x6_1).f2, (rd_T37 l0 x6_1).f3, (rd_T37 l0 x6_1).f4⟩ : S37)); (case aB => exact (bb_)); (case aF => exact (fun _ _ => trivial)); (case aO => exact (pe_ HO_5.out)); (case aS => exact (below_size (bb_))); (case aL => have := LMc20.out; omega); intro v307 w23 ho hb hg hat; rw [← Ny306.out] at ho; have n_ := as2_ (hb) (ho); clear HB HO_5; obtain ⟨HB, HO308⟩ := n_; clear ho hb hg hat))
             go_roundg kj4
             case measure => have := HK1.out; have := HJ4.out; omega
             case rel => exact ⟨(y306), (wrap64 (x6_1 + 1)), (x7_1), (rs_), (rs_), H', ⟨by have := HK1.out; have := HJ4.out; omega⟩, ⟨pe_ HO308.out⟩, ⟨bb_⟩⟩
            ·
             rw [if_neg c20] at H; exact absurd H (by simp)
           ·
            replace c19 := Bool.eq_false_iff.mpr c19; subst c19; replace H := Eq.trans (if_neg nf_).symm H
            by_cases c24 : x5_1.length < 3518437208883
            ·
             rw [if_pos c24] at H; have LMc24 := Aside0.mk c24; clear c24; obtain ⟨y310, hy310⟩ : ∃ y_ : List (S37), y_ = (x5_1 ++ [(⟨(rd_T37 l1 x7_1).f0, (rd_T37 l1 x7_1).f1, (rd_T37 l1 x7_1).f2, (rd_T37 l1 x7_1).f3, (rd_T37 l1 x7_1).f4⟩ : S37)]) := ⟨_, rfl⟩; replace H : (spec_l5Merge.l0 kj4 l0 l1 y310 x6_1 (wrap64 (x7_1 + 1))) = some r := rh_ hy310 H; have Ny310 := Aside0.mk hy310; clear hy310; have H' := Aside0.mk H; clear H; try go_wp2
             have n_ := as2_ (Kd.R_drew HO_5.out) (below_drew1 HB.out); clear HO_5 HB; obtain ⟨HO_5, HB⟩ := n_; have p302 : 0 ≤ (x6_1 : Int) := od_; have q302 : x6_1 < (l0.length : Int) := od_; obtain ⟨ad302, e302, hx302_0, hx302_1, hx302_2, hx302_3, hx302_4⟩ := at_T37 HR0.out x6_1 p302 q302; have hw302_4 := hx302_4; have hw302_3 := hx302_3; have hw302_2 := hx302_2; have hw302_1 := hx302_1; have hw302_0 := hx302_0; cases e302; replace hx302_0 := cl_ HB.out hx302_0; replace hx302_1 := cl_ HB.out hx302_1; replace hx302_2 := cl_ HB.out hx302_2; replace hx302_3 := cl_ HB.out hx302_3; replace hx302_4 := cl_ HB.out hx302_4; replace p302 := eq_true p302; replace q302 := eq_true q302; have p303 : 0 ≤ (x7_1 : Int) := od_; have q303 : x7_1 < (l1.length : Int) := od_; obtain ⟨ad303, e303, hx303_0, hx303_1, hx303_2, hx303_3, hx303_4⟩ := at_T37 HR1.out x7_1 p303 q303; have hw303_4 := hx303_4; have hw303_3 := hx303_3; have hw303_2 := hx303_2; have hw303_1 := hx303_1; have hw303_0 := hx303_0; cases e303; replace hx303_0 := cl_ HB.out hx303_0; replace hx303_1 := cl_ HB.out hx303_1; replace hx303_2 := cl_ HB.out hx303_2; replace hx303_3 := cl_ HB.out hx303_3; replace hx303_4 := cl_ HB.out hx303_4; replace p303 := eq_true p303; replace q303 := eq_true q303
             refine start_ (n := 21) (S := fun w' => w'.cell? (ad302.add ((x6_1).toNat * 5)) = some (.int .i64 ((rd_T37 l0 x6_1).f0)) ∧ w'.cell? ⟨(ad302.add ((x6_1).toNat * 5)).block, (ad302.add ((x6_1).toNat * 5)).off + 1, none⟩ = some (.int .i64 ((rd_T37 l0 x6_1).f1)) ∧ w'.cell? ⟨(ad302.add ((x6_1).toNat * 5)).block, (ad302.add ((x6_1).toNat * 5)).off + 2, none⟩ = some (.int .i64 ((rd_T37 l0 x6_1).f2)) ∧ w'.cell? ⟨(ad302.add ((x6_1).toNat * 5)).block, (ad302.add ((x6_1).toNat * 5)).off + 3, none⟩ = some (.int .i64 ((rd_T37 l0 x6_1).f3)) ∧ w'.cell? ⟨(ad302.add ((x6_1).toNat * 5)).block, (ad302.add ((x6_1).toNat * 5)).off + 4, none⟩ = some (.int .i64 ((rd_T37 l0 x6_1).f4)) ∧ w'.cell? (ad303.add ((x7_1).toNat * 5)) = some (.int .i64 ((rd_T37 l1 x7_1).f0)) ∧ w'.cell? ⟨(ad303.add ((x7_1).toNat * 5)).block, (ad303.add ((x7_1).toNat * 5)).off + 1, none⟩ = some (.int .i64 ((rd_T37 l1 x7_1).f1)) ∧ w'.cell? ⟨(ad303.add ((x7_1).toNat * 5)).block, (ad303.add ((x7_1).toNat * 5)).off + 2, none⟩ = some (.int .i64 ((rd_T37 l1 x7_1).f2)) ∧ w'.cell? ⟨(ad303.add ((x7_1).toNat * 5)).block, (ad303.add ((x7_1).toNat * 5)).off + 3, none⟩ = some (.int .i64 ((rd_T37 l1 x7_1).f3)) ∧ w'.cell? ⟨(ad303.add ((x7_1).toNat * 5)).block, (ad303.add ((x7_1).toNat * 5)).off + 4, none⟩ = some (.int .i64 ((rd_T37 l1 x7_1).f4))) (ds := []) (ba_ 21 0) kr_ rfl rfl ⟨((HB.out.cell (World.block_lt_of_cell? w _ hw302_0)).trans hw302_0), ((HB.out.cell (World.block_lt_of_cell? w _ hw302_1)).trans hw302_1), ((HB.out.cell (World.block_lt_of_cell? w _ hw302_2)).trans hw302_2), ((HB.out.cell (World.block_lt_of_cell? w _ hw302_3)).trans hw302_3), ((HB.out.cell (World.block_lt_of_cell? w _ hw302_4)).trans hw302_4), ((HB.out.cell (World.block_lt_of_cell? w _ hw303_0)).trans hw303_0), ((HB.out.cell (World.block_lt_of_cell? w _ hw303_1)).trans hw303_1), ((HB.out.cell (World.block_lt_of_cell? w _ hw303_2)).trans hw303_2), ((HB.out.cell (World.block_lt_of_cell? w _ hw303_3)).trans hw303_3), ((HB.out.cell (World.block_lt_of_cell? w _ hw303_4)).trans hw303_4)⟩ (fun hHeld => ?_); refine with_tabW spec_l5Merge.tab4 spec_l5Merge.bits4 (fun HT_ HW_ => ?_)
             generalize wc.drew = w25 at HO_5 HB hx302_0 hx302_1 hx302_2 hx302_3 hx302_4 hx303_0 hx303_1 hx303_2 hx303_3 hx303_4 hHeld ⊢
             refine pu_ 0 19 HT_.out (ba_ 21 1) ?_; refine pu_ 1 20 HT_.out (ba_ 21 3) ?_; refine pu_ 2 21 HT_.out (ba_ 21 7) ?_; refine pu_ 3 22 HT_.out (ba_ 21 15) ?_; refine pu_ 4 23 HT_.out (ba_ 21 31) ?_; refine pu_ 5 24 HT_.out (ba_ 21 63) ?_; refine pu_ 6 25 HT_.out (ba_ 21 127) ?_; refine pu_ 7 26 HT_.out (ba_ 21 255) ?_; refine pu_ 8 27 HT_.out (ba_ 21 511) ?_; refine pu_ 9 28 HT_.out (ba_ 21 1023) ?_; refine pu_ 10 29 HT_.out (ba_ 21 2047) ?_; refine pu_ 11 30 HT_.out (ba_ 21 4095) ?_; refine pu_ 12 31 HT_.out (ba_ 21 8191) ?_; refine pu_ 14 33 HT_.out (ba_ 21 24575) ?_; refine pu_ 15 34 HT_.out (ba_ 21 57343) ?_; refine pu_ 16 35 HT_.out (ba_ 21 122879) ?_; refine ta_ 13 32 HT_.out HW_.out hHeld (ba_ 21 131071) ?_; refine ta_ 17 36 HT_.out HW_.out hHeld (ba_ 21 262143) ?_; refine one_ (i := 18) (N := some 37) (ba_ 21 524287) rfl rfl (one_of HT_.out kr_) (by decide) (fun K hK => ?_)
             refine goes_ Try.func40 kr_ rfl #[.agg #[.int .i64 ((rd_T37 l0 x6_1).f0), .int .i64 ((rd_T37 l0 x6_1).f1), .int .i64 ((rd_T37 l0 x6_1).f2), .int .i64 ((rd_T37 l0 x6_1).f3), .int .i64 ((rd_T37 l0 x6_1).f4)], .agg #[.int .i64 ((rd_T37 l1 x7_1).f0), .int .i64 ((rd_T37 l1 x7_1).f1), .int .i64 ((rd_T37 l1 x7_1).f2), .int .i64 ((rd_T37 l1 x7_1).f3), .int .i64 ((rd_T37 l1 x7_1).f4)]] (by rfl) rfl rfl (bc_) ?_
             with_reducible refine (spec_l5Before.calls ((rd_T37 l0 x6_1).f0) ((rd_T37 l0 x6_1).f1) ((rd_T37 l0 x6_1).f2) ((rd_T37 l0 x6_1).f3) ((rd_T37 l0 x6_1).f4) ((rd_T37 l1 x7_1).f0) ((rd_T37 l1 x7_1).f1) ((rd_T37 l1 x7_1).f2) ((rd_T37 l1 x7_1).f3) ((rd_T37 l1 x7_1).f4) false _ A18.out).mono ?_
             rintro e w26 ⟨rfl, hb⟩; refine ⟨_, rfl, ?_⟩
             have n_ := as2_ (Kd.R_below (pe_ HO_5.out) hb) (below_step (bb_) hb); clear HO_5 HB; obtain ⟨HO_5, HB⟩ := n_
             
             
             
             
             refine hK.out _ _ ⟨((HB.out.cell (World.block_lt_of_cell? w _ hw302_0)).trans hw302_0), ((HB.out.cell (World.block_lt_of_cell? w _ hw302_1)).trans hw302_1), ((HB.out.cell (World.block_lt_of_cell? w _ hw302_2)).trans hw302_2), ((HB.out.cell (World.block_lt_of_cell? w _ hw302_3)).trans hw302_3), ((HB.out.cell (World.block_lt_of_cell? w _ hw302_4)).trans hw302_4), ((HB.out.cell (World.block_lt_of_cell? w _ hw303_0)).trans hw303_0), ((HB.out.cell (World.block_lt_of_cell? w _ hw303_1)).trans hw303_1), ((HB.out.cell (World.block_lt_of_cell? w _ hw303_2)).trans hw303_2), ((HB.out.cell (World.block_lt_of_cell? w _ hw303_3)).trans hw303_3), ((HB.out.cell (World.block_lt_of_cell? w _ hw303_4)).trans hw303_4)⟩ (fun hHeld => ?_)
             clear hK K; refine norm_ (a' := ?_) ?_ ?_
             rotate_left
             ·
              show Act.put _ (some 37) _ = _
              exact sp_
             refine pu_ 19 38 HT_.out (ba_ 21 1048575) ?_; refine pu_ 20 39 HT_.out (ba_ 21 2097151) ?_; refine done_ (done_of HT_.out kr_) ?_
             have p309 : 0 ≤ (x7_1 : Int) := od_; have q309 : x7_1 < (l1.length : Int) := od_; obtain ⟨ad309, e309, hx309_0, hx309_1, hx309_2, hx309_3, hx309_4⟩ := at_T37 HR1.out x7_1 p309 q309; obtain rfl : ad303 = ad309 := (by injection e309)
             replace hx309_0 := cl_ HB.out hx309_0; replace hx309_1 := cl_ HB.out hx309_1; replace hx309_2 := cl_ HB.out hx309_2; replace hx309_3 := cl_ HB.out hx309_3; replace hx309_4 := cl_ HB.out hx309_4; replace p309 := eq_true p309; replace q309 := eq_true q309
             try go_wp2_with (first | ((with_reducible refine gate_builtin (b := .append) (xs := #[.tmp 49, .tmp 54]) rfl ?_); (try (refine gate_guard (by rfl) ?_; dsimp only)); at_builtin; refine Kd.R_append k37 (w0 := w) w.heap.size rfl (.tmp 49) (.tmp 54) 25 37 (.agg #[(.int .i64 0), (.int .i64 0), (.int .i64 0), (.int .i64 0), (.int .i64 0)]) 40 rfl Try.underlying25 info37 rfl (by decide) (by omega) u5 x5_1 (⟨(rd_T37 l1 x7_1).f0, (rd_T37 l1 x7_1).f1, (rd_T37 l1 x7_1).f2, (rd_T37 l1 x7_1).f3, (rd_T37 l1 x7_1).f4⟩ : S37) [.int .i64 ((rd_T37 l1 x7_1).f0), .int .i64 ((rd_T37 l1 x7_1).f1), .int .i64 ((rd_T37 l1 x7_1).f2), .int .i64 ((rd_T37 l1 x7_1).f3), .int .i64 ((rd_T37 l1 x7_1).f4)] (fun _ => True) (fun _ => False) rfl rfl ?aP (fun _ hk => hk.elim) ?aF ?aO ?aB ?aS ?aL ?_; (case aP => exact k37_mkM _ _ _ (⟨(rd_T37 l1 x7_1).f0, (rd_T37 l1 x7_1).f1, (rd_T37 l1 x7_1).f2, (rd_T37 l1 x7_1).f3, (rd_T37 l1 x7_1).f4⟩ : S37)); (case aB => exact (bb_)); (case aF => exact (fun _ _ => trivial)); (case aO => exact (pe_ HO_5.out)); (case aS => exact (below_size (bb_))); (case aL => have := LMc24.out; omega); intro v311 w27 ho hb hg hat; rw [← Ny310.out] at ho; have n_ := as2_ (hb) (ho); clear HB HO_5; obtain ⟨HB, HO312⟩ := n_; clear ho hb hg hat))
             go_roundg kj4
             case measure => have := HK1.out; have := HJ4.out; omega
             case rel => exact ⟨(y310), (x6_1), (wrap64 (x7_1 + 1)), (rs_), (rs_), H', ⟨by have := HK1.out; have := HJ4.out; omega⟩, ⟨pe_ HO312.out⟩, ⟨bb_⟩⟩
            ·
             rw [if_neg c24] at H; exact absurd H (by simp)
          ·
           rw [if_neg c17] at H; exact absurd H (by simp)
         ·
          rw [if_neg c16] at H; exact absurd H (by simp)
        ·
         rw [if_neg c15] at H; exact absurd H (by simp)
       ·
        rw [if_neg c14] at H; have c14b0 : decide (x6_1 < (l0.length : Int)) = false := decide_eq_false c14; clear c14
        by_cases c28 : 0 ≤ x7_1
        ·
         rw [if_pos c28] at H; have c28b0 : decide (0 ≤ x7_1) = true := decide_eq_true c28; clear c28
         by_cases c29 : x7_1 < (l1.length : Int)
         ·
          rw [if_pos c29] at H; have c29b0 : decide (x7_1 < (l1.length : Int)) = true := decide_eq_true c29; clear c29
          by_cases c30 : x5_1.length < 3518437208883
          ·
           rw [if_pos c30] at H; have LMc30 := Aside0.mk c30; clear c30; obtain ⟨y314, hy314⟩ : ∃ y_ : List (S37), y_ = (x5_1 ++ [(⟨(rd_T37 l1 x7_1).f0, (rd_T37 l1 x7_1).f1, (rd_T37 l1 x7_1).f2, (rd_T37 l1 x7_1).f3, (rd_T37 l1 x7_1).f4⟩ : S37)]) := ⟨_, rfl⟩; replace H : (spec_l5Merge.l0 kj4 l0 l1 y314 x6_1 (wrap64 (x7_1 + 1))) = some r := rh_ hy314 H; have Ny314 := Aside0.mk hy314; clear hy314; have H' := Aside0.mk H; clear H; try go_wp2
           have n_ := as2_ (Kd.R_drew HO_5.out) (below_drew1 HB.out); clear HO_5 HB; obtain ⟨HO_5, HB⟩ := n_; refine start_ (n := 21) (S := fun w' => True) (ds := []) (ba_ 21 0) kr_ rfl rfl trivial (fun hHeld => ?_); refine with_tabW spec_l5Merge.tab4 spec_l5Merge.bits4 (fun HT_ HW_ => ?_)
           generalize wc.drew = w31 at HO_5 HB hHeld ⊢
           refine pu_ 0 19 HT_.out (ba_ 21 1) ?_; refine pu_ 1 20 HT_.out (ba_ 21 3) ?_; refine pu_ 2 21 HT_.out (ba_ 21 7) ?_; refine pu_ 3 22 HT_.out (ba_ 21 15) ?_; refine pu_ 4 23 HT_.out (ba_ 21 31) ?_; refine pu_ 5 24 HT_.out (ba_ 21 63) ?_; refine pu_ 6 25 HT_.out (ba_ 21 127) ?_; refine pu_ 7 26 HT_.out (ba_ 21 255) ?_; refine pu_ 8 27 HT_.out (ba_ 21 511) ?_; refine pu_ 9 28 HT_.out (ba_ 21 1023) ?_; refine sk_ 10 29 HT_.out (ba_ 21 2047) ?_; refine sk_ 11 30 HT_.out (ba_ 21 4095) ?_; refine sk_ 12 31 HT_.out (ba_ 21 8191) ?_; refine sk_ 13 32 HT_.out (ba_ 21 16383) ?_; refine sk_ 14 33 HT_.out (ba_ 21 32767) ?_; refine sk_ 15 34 HT_.out (ba_ 21 65535) ?_; refine sk_ 16 35 HT_.out (ba_ 21 131071) ?_; refine sk_ 17 36 HT_.out (ba_ 21 262143) ?_; refine sk_ 18 37 HT_.out (ba_ 21 524287) ?_; refine pu_ 19 38 HT_.out (ba_ 21 1048575) ?_; refine pu_ 20 39 HT_.out (ba_ 21 2097151) ?_; refine done_ (done_of HT_.out kr_) ?_
           have p313 : 0 ≤ (x7_1 : Int) := od_; have q313 : x7_1 < (l1.length : Int) := od_; obtain ⟨ad313, e313, hx313_0, hx313_1, hx313_2, hx313_3, hx313_4⟩ := at_T37 HR1.out x7_1 p313 q313; cases e313; replace hx313_0 := cl_ HB.out hx313_0; replace hx313_1 := cl_ HB.out hx313_1; replace hx313_2 := cl_ HB.out hx313_2; replace hx313_3 := cl_ HB.out hx313_3; replace hx313_4 := cl_ HB.out hx313_4; replace p313 := eq_true p313; replace q313 := eq_true q313
           try go_wp2_with (first | ((with_reducible refine gate_builtin (b := .append) (xs := #[.tmp 49, .tmp 54]) rfl ?_); (try (refine gate_guard (by rfl) ?_; dsimp only)); at_builtin; refine Kd.R_append k37 (w0 := w) w.heap.size rfl (.tmp 49) (.tmp 54) 25 37 (.agg #[(.int .i64 0), (.int .i64 0), (.int .i64 0), (.int .i64 0), (.int .i64 0)]) 40 rfl Try.underlying25 info37 rfl (by decide) (by omega) u5 x5_1 (⟨(rd_T37 l1 x7_1).f0, (rd_T37 l1 x7_1).f1, (rd_T37 l1 x7_1).f2, (rd_T37 l1 x7_1).f3, (rd_T37 l1 x7_1).f4⟩ : S37) [.int .i64 ((rd_T37 l1 x7_1).f0), .int .i64 ((rd_T37 l1 x7_1).f1), .int .i64 ((rd_T37 l1 x7_1).f2), .int .i64 ((rd_T37 l1 x7_1).f3), .int .i64 ((rd_T37 l1 x7_1).f4)] (fun _ => True) (fun _ => False) rfl rfl ?aP (fun _ hk => hk.elim) ?aF ?aO ?aB ?aS ?aL ?_; (case aP => exact k37_mkM _ _ _ (⟨(rd_T37 l1 x7_1).f0, (rd_T37 l1 x7_1).f1, (rd_T37 l1 x7_1).f2, (rd_T37 l1 x7_1).f3, (rd_T37 l1 x7_1).f4⟩ : S37)); (case aB => exact (bb_)); (case aF => exact (fun _ _ => trivial)); (case aO => exact (pe_ HO_5.out)); (case aS => exact (below_size (bb_))); (case aL => have := LMc30.out; omega); intro v315 w32 ho hb hg hat; rw [← Ny314.out] at ho; have n_ := as2_ (hb) (ho); clear HB HO_5; obtain ⟨HB, HO316⟩ := n_; clear ho hb hg hat))
           go_roundg kj4
           case measure => have := HK1.out; have := HJ4.out; omega
           case rel => exact ⟨(y314), (x6_1), (wrap64 (x7_1 + 1)), (rs_), (rs_), H', ⟨by have := HK1.out; have := HJ4.out; omega⟩, ⟨pe_ HO316.out⟩, ⟨bb_⟩⟩
          ·
           rw [if_neg c30] at H; exact absurd H (by simp)
         ·
          rw [if_neg c29] at H; exact absurd H (by simp)
        ·
         rw [if_neg c28] at H; exact absurd H (by simp)
     ·
      replace c7 := Bool.eq_false_iff.mpr c7; subst c7; replace H := Eq.trans (if_neg nf_).symm H; obtain rfl := Option.some.inj H; go_wp2; go_ret; exact ⟨_, er_, pe_ HO_5.out, bb_⟩
end Go.Proofs.Ytomanpmffjkkgaa.P
namespace Go.Proofs.Ytomanpmffjkkgaa
section
open Go Go.RowKit Go.Proofs.YtomanpmffjkkgaaW.PrintWords Go.Proofs.YtomanpmffjkkgaaW.PrintLast Go.Proofs.YtomanpmffjkkgaaW.PrintMore
theorem as5_ {p0 p1 p2 p3 p4 : Prop} (x0 : p0) (x1 : p1) (x2 : p2) (x3 : p3) (x4 : p4) : Aside0 p0 ∧ Aside0 p1 ∧ Aside0 p2 ∧ Aside0 p3 ∧ Aside0 p4 := ⟨⟨x0⟩, ⟨x1⟩, ⟨x2⟩, ⟨x3⟩, ⟨x4⟩⟩
end
end Go.Proofs.Ytomanpmffjkkgaa
namespace Go.Proofs.Ytomanpmffjkkgaa.P
open Go.RowKit Go.Proofs.YtomanpmffjkkgaaW.PrintWords Go.Proofs.YtomanpmffjkkgaaW.PrintLast Go.Proofs.YtomanpmffjkkgaaW.PrintMore
attribute [local go_sem] max2_int min2_int max_two min_two max_three min_three max_four min_four   -- for this text's walks alone
set_option linter.unusedVariables false
set_option linter.unusedSimpArgs false
def spec_LotOpen.j0 : Nat → List (S37) → Bool → Int → Int → Int → Int → Int → Option ((List (S37)) × Int)
 | 0, _, _, _, _, _, _, _ => none
 | k + 1, x0, x14, x318000, x318001, x318002, x318003, x318004 => if x14 = true then (some ((([] : List (S37))), 1)) else ((spec_l5Merge.f k x0 (([(⟨x318000, x318001, x318002, x318003, x318004⟩ : S37)] : List (S37)))).bind fun t326 => ((spec_LotsOk.f k t326).bind fun t329 => (if t329 = true then (some (t326, 0)) else ((some (([] : List (S37)) : List (S37))).bind fun y330 => (if y330.length + x0.length < 3518437208883 then (some ((y330 ++ x0), 3)) else (none))))))
def spec_LotOpen.f (k : Nat) (l0 : List (S37)) (a1_0 : Int) (a1_1 : Int) (a1_2 : Int) (a1_3 : Int) (a1_4 : Int) : Option ((List (S37)) × Int) := (spec_LotsOk.f k l0).bind fun t318 => (if t318 = true then ((spec_l5Right.f a1_0 a1_1 a1_2 a1_3 a1_4).bind fun t319 => (spec_LotOpen.j0 k l0 (!t319) a1_0 a1_1 a1_2 a1_3 a1_4)) else (spec_LotOpen.j0 k l0 true a1_0 a1_1 a1_2 a1_3 a1_4))
set_option maxHeartbeats 8000000 in
set_option maxRecDepth 100000 in
theorem spec_LotOpen.calls (k : Nat) (A0 : Option Addr) (c0 : Nat) (l0 : List (S37)) (a1_0 : Int) (a1_1 : Int) (a1_2 : Int) (a1_3 : Int) (a1_4 : Int) (r1 : List (S37)) (r2 : Int) (w : World) (hr0 : Kd.C k37 w A0 l0.length l0) (hc0 : l0.length ≤ c0) (h : spec_LotOpen.f k l0 a1_0 a1_1 a1_2 a1_3 a1_4 = some (r1, r2)) :
 Calls Try.prog 27 #[.slice A0 l0.length c0, .agg #[.int .i64 a1_0, .int .i64 a1_1, .int .i64 a1_2, .int .i64 a1_3, .int .i64 a1_4]] w fun e w' => ∃ v0_ : Value, e = .returned (.tuple #[v0_, .int .i64 r2]) ∧ Kd.R k37 37 w' w.heap.size (fun _ => True) v0_ r1 ∧ Below w.heap.size w w' := by
 have hu37 := Try.underlying37; have HR0 := Aside0.mk hr0; have HC0 := Aside0.mk hc0; clear hr0 hc0; have HB := Aside0.mk (Below.refl w.heap.size w); have H : ((spec_LotsOk.f k l0).bind fun t318 => (if t318 = true then ((spec_l5Right.f a1_0 a1_1 a1_2 a1_3 a1_4).bind fun t319 => (spec_LotOpen.j0 k l0 (!t319) a1_0 a1_1 a1_2 a1_3 a1_4)) else (spec_LotOpen.j0 k l0 true a1_0 a1_1 a1_2 a1_3 a1_4))) = some (r1, r2) := h; clear h; have HC3 := Aside0.mk H; clear H; go_enter Try.func27, Try.ntmps27; go_upto_region 1 with (first | ((with_reducible refine gate_dst (N := 3) rfl ?_); refine be_ 3 (cs := #[.int .i64 a1_0, .int .i64 a1_1, .int .i64 a1_2, .int .i64 a1_3, .int .i64 a1_4]) (t := 37) ?_; intro gb317 hg w4 hbox hb; have n_ := as4_ (below_step (bb_) hb) (hbox) ((gs_ hg : w.heap.size ≤ gb317)) ((gs_ hg : w.heap.size ≤ gb317)); clear HB; obtain ⟨HB, BK317, GW317, GE317⟩ := n_; clear hb hbox hg))
 (try simp only [Act.put, List.setIfInBounds_toArray, List.set_cons_zero, List.set_cons_succ])
 go_cut [14] (fun v14 wc => ∃ (kq : Nat) (x14_2 : Bool), v14 = .bool x14_2 ∧ Aside0 (spec_LotOpen.j0 kq l0 x14_2 a1_0 a1_1 a1_2 a1_3 a1_4 = some (r1, r2)) ∧ Aside0 (kq ≤ k) ∧ Aside0 (wc.heap[gb317]? = some (.cells #[.int .i64 a1_0, .int .i64 a1_1, .int .i64 a1_2, .int .i64 a1_3, .int .i64 a1_4] 37 (0, 0))) ∧ Aside0 (Below w.heap.size w wc))
 case first =>
  have H := HC3.out; clear HC3; replace H := Option.bind_eq_some_iff.mp H; obtain ⟨t318, A50, H⟩ := H; have A5 := Aside0.mk A50; clear A50
  by_cases c6 : t318 = true
  ·
   subst c6; replace H := Eq.trans (if_pos rfl).symm H; replace H := Option.bind_eq_some_iff.mp H; obtain ⟨t319, A70, H⟩ := H; have A7 := Aside0.mk A70; clear A70; have H' := Aside0.mk H; clear H; go_wp2_with (first | ((with_reducible refine gate_callee (f := 15) rfl ?_); refine goesL_ (some 8) rfl rfl Try.func15 kr_ rfl #[.slice A0 l0.length c0] rfl (bc_) ?_; (with_reducible refine (spec_LotsOk.calls k _ _ l0 true _ ?side1 ?side2 A5.out).mono ?_); (case side1 => exact cc_ (Kd.C_below HR0.out HB.out)); (case side2 => exact HC0.out); rintro e w8 ⟨rfl, hb⟩; refine ⟨_, rfl, ?_⟩; have n_ := as2_ (blk_below (g := gb317) (o := .cells #[.int .i64 a1_0, .int .i64 a1_1, .int .i64 a1_2, .int .i64 a1_3, .int .i64 a1_4] 37 (0, 0)) (pb_ BK317.out) hb) (below_step (bg_ GE317.out) hb); clear BK317 HB; obtain ⟨BK317, HB⟩ := n_; (try clear hb); obtain ⟨hcz9_0, hcz9_1, hcz9_2, hcz9_3, hcz9_4, hfz9_0, hfz9_1, hfz9_2, hfz9_3, hfz9_4⟩ := ce5_ BK317.out) | (go_at_call 39; (with_reducible refine (spec_l5Right.calls a1_0 a1_1 a1_2 a1_3 a1_4 t319 _ A7.out).mono ?_); rintro e w10 ⟨rfl, hb⟩; have n_ := as2_ (blk_below (g := gb317) (o := .cells #[.int .i64 a1_0, .int .i64 a1_1, .int .i64 a1_2, .int .i64 a1_3, .int .i64 a1_4] 37 (0, 0)) (pb_ BK317.out) hb) (below_step (bg_ GE317.out) hb); clear BK317 HB; obtain ⟨BK317, HB⟩ := n_; (try clear hb)))
   go_meet
   case rel => exact ⟨_, (!t319), (rs_), H', ⟨le_⟩, ⟨by (with_reducible repeat (first | refine blk_drewN ?_ _ | refine blk_drew ?_ | refine blk_alloc ?_ _)); exact BK317.out⟩, ⟨bg_ GE317.out⟩⟩
  ·
   replace c6 := Bool.eq_false_iff.mpr c6; subst c6; have H' := Aside0.mk (Eq.trans (if_neg nf_).symm H); clear H; go_wp2_with (first | ((with_reducible refine gate_callee (f := 15) rfl ?_); refine goesL_ (some 8) rfl rfl Try.func15 kr_ rfl #[.slice A0 l0.length c0] rfl (bc_) ?_; (with_reducible refine (spec_LotsOk.calls k _ _ l0 false _ ?side1 ?side2 A5.out).mono ?_); (case side1 => exact cc_ (Kd.C_below HR0.out HB.out)); (case side2 => exact HC0.out); rintro e w11 ⟨rfl, hb⟩; refine ⟨_, rfl, ?_⟩; have n_ := as2_ (blk_below (g := gb317) (o := .cells #[.int .i64 a1_0, .int .i64 a1_1, .int .i64 a1_2, .int .i64 a1_3, .int .i64 a1_4] 37 (0, 0)) (pb_ BK317.out) hb) (below_step (bg_ GE317.out) hb); clear BK317 HB; obtain ⟨BK317, HB⟩ := n_; (try clear hb)))
   go_meet
   case rel => exact ⟨_, (true), (rs_), H', ⟨le_⟩, ⟨by (with_reducible repeat (first | refine blk_drewN ?_ _ | refine blk_drew ?_ | refine blk_alloc ?_ _)); exact BK317.out⟩, ⟨bg_ GE317.out⟩⟩
 case rest =>
  clear HC3; try clear c1
  try clear c2
  try clear p2
  try clear c6
  try clear hcz9_0
  try clear hcz9_1
  try clear hcz9_2
  try clear hcz9_3
  try clear hcz9_4
  try clear hfz9_0
  try clear hfz9_1
  try clear hfz9_2
  try clear hfz9_3
  try clear hfz9_4
  obtain ⟨kq, x14_2, rfl, HA, HJ2, BK317, HB⟩ := hcut
  cases kq with
  | zero => exact absurd HA.out (by simp [spec_LotOpen.j0])
  | succ kj2 =>
   have H := HA.out; clear HA; simp only [spec_LotOpen.j0] at H
   by_cases c12 : x14_2 = true
   ·
    subst c12; replace H := Eq.trans (if_pos rfl).symm H; obtain ⟨y320, hy320⟩ : ∃ y_ : List (S37), y_ = (([] : List (S37))) := ⟨_, rfl⟩; replace H : (some (y320, 1)) = some (r1, r2) := rh_ hy320 H; have Ny320 := Aside0.mk hy320; clear hy320; simp only [Option.some.injEq, Prod.mk.injEq] at H; obtain ⟨rfl, rfl⟩ := H; go_wp2_with (first | ((with_reducible refine gate_dst (N := 15) rfl ?_); refine Kd.R_lit k37 _ 37 ?hg (N := 15) ?hd (xs := ([] : List (S37))) (inner := []) (ok := fun _ => True) (okp := fun _ => True) ?hr ?hp (fun _ hk => hk) trivial (Below.refl _ _) (Nat.le_refl _) (by simp) ?_; (case hd => rfl); (case hg => rfl); (case hr => first | (go_simp; done) | (go_simp; rfl)); (case hp => exact (Reps.none _ _)); intro v321 w13 ho14 hb hg_ hnew_; clear hg_ hnew_; (first | rw [← Ny320.out] at ho14 | (simp only [Int.reduceToNat] at ho14; rw [← Ny320.out] at ho14)); have n_ := as3_ (Kd.R_lower (Kd.R_newB ho14 (g := gb317) (o := .cells #[.int .i64 a1_0, .int .i64 a1_1, .int .i64 a1_2, .int .i64 a1_3, .int .i64 a1_4] 37 (0, 0)) (pb_ BK317.out)) (below_size (bg_ GE317.out))) (blk_below (g := gb317) (o := .cells #[.int .i64 a1_0, .int .i64 a1_1, .int .i64 a1_2, .int .i64 a1_3, .int .i64 a1_4] 37 (0, 0)) (pb_ BK317.out) hb) (below_step (bg_ GE317.out) hb); clear BK317 HB; obtain ⟨HO322, BK317, HB⟩ := n_; clear hb ho14))
    go_ret2; exact ⟨_, er_, by (with_reducible repeat (first | apply Kd.R_alloc | apply Kd.R_drewN | apply Kd.R_drew)); exact Kd.R_mono HO322.out (fun _ hk => trivial), bg_ GE317.out⟩
   ·
    replace c12 := Bool.eq_false_iff.mpr c12; subst c12; replace H := Eq.trans (if_neg nf_).symm H; obtain ⟨y323, hy323⟩ : ∃ y_ : List (S37), y_ = (([(⟨a1_0, a1_1, a1_2, a1_3, a1_4⟩ : S37)] : List (S37))) := ⟨_, rfl⟩; replace H : ((spec_l5Merge.f kj2 l0 y323).bind fun t326 => ((spec_LotsOk.f kj2 t326).bind fun t329 => (if t329 = true then (some (t326, 0)) else ((some (([] : List (S37)) : List (S37))).bind fun y330 => (if y330.length + l0.length < 3518437208883 then (some ((y330 ++ l0), 3)) else (none)))))) = some (r1, r2) := rh_ hy323 H; have Ny323 := Aside0.mk hy323; clear hy323; replace H := Option.bind_eq_some_iff.mp H; obtain ⟨t326, A150, H⟩ := H; have A15 := Aside0.mk A150; clear A150; replace H := Option.bind_eq_some_iff.mp H; obtain ⟨t329, A160, H⟩ := H; have A16 := Aside0.mk A160; clear A160
    by_cases c17 : t329 = true
    ·
     subst c17; replace H := Eq.trans (if_pos rfl).symm H; simp only [Option.some.injEq, Prod.mk.injEq] at H; obtain ⟨rfl, rfl⟩ := H; have hcz18_0 : wc.cell? ⟨gb317, 0, none⟩ = some (.int .i64 a1_0) := (blk_cell BK317.out 0).trans rfl; have hcz18_1 : wc.cell? ⟨gb317, 1, none⟩ = some (.int .i64 a1_1) := (blk_cell BK317.out 1).trans rfl; have hcz18_2 : wc.cell? ⟨gb317, 2, none⟩ = some (.int .i64 a1_2) := (blk_cell BK317.out 2).trans rfl; have hcz18_3 : wc.cell? ⟨gb317, 3, none⟩ = some (.int .i64 a1_3) := (blk_cell BK317.out 3).trans rfl; have hcz18_4 : wc.cell? ⟨gb317, 4, none⟩ = some (.int .i64 a1_4) := (blk_cell BK317.out 4).trans rfl; have hfz18_0 := blk_frozen BK317.out 0; have hfz18_1 := blk_frozen BK317.out 1; have hfz18_2 := blk_frozen BK317.out 2; have hfz18_3 := blk_frozen BK317.out 3; have hfz18_4 := blk_frozen BK317.out 4
     go_wp2_with (first | ((with_reducible refine gate_dst (N := 18) rfl ?_); refine Kd.R_lit k37 _ 37 ?hg (N := 18) ?hd (xs := ([(⟨a1_0, a1_1, a1_2, a1_3, a1_4⟩ : S37)] : List (S37))) (inner := [.int .i64 a1_0, .int .i64 a1_1, .int .i64 a1_2, .int .i64 a1_3, .int .i64 a1_4]) (ok := fun _ => True) (okp := fun _ => True) ?hr ?hp (fun _ hk => hk) trivial (Below.refl _ _) (Nat.le_refl _) (by simp) ?_; (case hd => rfl); (case hg => rfl); (case hr => first | (go_simp; done) | (go_simp; rfl)); (case hp => exact (Reps.c5 (show Kd.M k37 _ _ _ (⟨a1_0, a1_1, a1_2, a1_3, a1_4⟩ : S37) [.int .i64 a1_0, .int .i64 a1_1, .int .i64 a1_2, .int .i64 a1_3, .int .i64 a1_4] from (k37_mkM _ _ _ (⟨a1_0, a1_1, a1_2, a1_3, a1_4⟩ : S37) )) (Reps.none _ _))); intro v324 w19 ho20 hb hg_ hnew_; clear hg_ hnew_; (first | rw [← Ny323.out] at ho20 | (simp only [Int.reduceToNat] at ho20; rw [← Ny323.out] at ho20)); have n_ := as3_ (Kd.R_lower (Kd.R_newB ho20 (g := gb317) (o := .cells #[.int .i64 a1_0, .int .i64 a1_1, .int .i64 a1_2, .int .i64 a1_3, .int .i64 a1_4] 37 (0, 0)) (pb_ BK317.out)) (below_size (bg_ GE317.out))) (blk_below (g := gb317) (o := .cells #[.int .i64 a1_0, .int .i64 a1_1, .int .i64 a1_2, .int .i64 a1_3, .int .i64 a1_4] 37 (0, 0)) (pb_ BK317.out) hb) (below_step (bg_ GE317.out) hb); clear BK317 HB; obtain ⟨HO325, BK317, HB⟩ := n_; clear hb ho20; obtain ⟨Ao21, co21, eo21⟩ := Kd.R_slice HO325.out; subst eo21) | ((with_reducible refine gate_callee (f := 53) rfl ?_); refine goesL_ (some 19) rfl rfl Try.func53 kr_ rfl #[.slice A0 l0.length c0, .slice Ao21 y323.length co21] rfl (bc_) ?_; (with_reducible refine (spec_l5Merge.calls kj2 _ _ l0 _ _ y323 t326 _ ?side1 ?side2 ?side3 ?side4 A15.out).mono ?_); (case side1 => exact cc_ (Kd.C_below HR0.out HB.out)); (case side2 => exact HC0.out); (case side3 => exact cc_ (Kd.R_reads' HO325.out).2.2); (case side4 => exact (Kd.R_reads' HO325.out).2.1); rintro e w22 ⟨v327, rfl, ho0, hb⟩; refine ⟨_, rfl, ?_⟩; have n_ := as4_ (Kd.R_elder' (pe_ HO325.out) (Kd.R_base ho0) hb) (Kd.R_lower (Kd.R_newB (Kd.R_new' ho0 (Kd.R_lt (pe_ HO325.out))) (g := gb317) (o := .cells #[.int .i64 a1_0, .int .i64 a1_1, .int .i64 a1_2, .int .i64 a1_3, .int .i64 a1_4] 37 (0, 0)) (pb_ BK317.out)) (below_size (bg_ GE317.out))) (blk_below (g := gb317) (o := .cells #[.int .i64 a1_0, .int .i64 a1_1, .int .i64 a1_2, .int .i64 a1_3, .int .i64 a1_4] 37 (0, 0)) (pb_ BK317.out) hb) (below_step (bg_ GE317.out) hb); clear HO325 BK317 HB; obtain ⟨HO325, HO328, BK317, HB⟩ := n_; (try clear hb); (try clear ho0); obtain ⟨Ao23, co23, eo23⟩ := Kd.R_slice HO328.out; subst eo23) | ((with_reducible refine gate_callee (f := 15) rfl ?_); refine goesL_ (some 21) rfl rfl Try.func15 kr_ rfl #[.slice Ao23 t326.length co23] rfl (bc_) ?_; (with_reducible refine (spec_LotsOk.calls kj2 _ _ t326 true _ ?side1 ?side2 A16.out).mono ?_); (case side1 => exact cc_ (Kd.R_reads' HO328.out).2.2); (case side2 => exact (Kd.R_reads' HO328.out).2.1); rintro e w24 ⟨rfl, hb⟩; refine ⟨_, rfl, ?_⟩; have n_ := as4_ (Kd.R_below (pe_ HO325.out) hb) (Kd.R_below (pe_ HO328.out) hb) (blk_below (g := gb317) (o := .cells #[.int .i64 a1_0, .int .i64 a1_1, .int .i64 a1_2, .int .i64 a1_3, .int .i64 a1_4] 37 (0, 0)) (pb_ BK317.out) hb) (below_step (bg_ GE317.out) hb); clear HO325 HO328 BK317 HB; obtain ⟨HO325, HO328, BK317, HB⟩ := n_; (try clear hb)))
     go_ret2; exact ⟨_, er_, by (with_reducible repeat (first | apply Kd.R_alloc | apply Kd.R_drewN | apply Kd.R_drew)); exact Kd.R_mono HO328.out (fun _ hk => trivial), bg_ GE317.out⟩
    ·
     replace c17 := Bool.eq_false_iff.mpr c17; subst c17; replace H := Eq.trans (if_neg nf_).symm H; obtain ⟨y330, hy330⟩ : ∃ y_ : List (S37), y_ = (([] : List (S37))) := ⟨_, rfl⟩; replace H : (if y330.length + l0.length < 3518437208883 then (some ((y330 ++ l0), 3)) else (none)) = some (r1, r2) := rh_ hy330 H; have Ny330 := Aside0.mk hy330; clear hy330
     by_cases c25 : y330.length + l0.length < 3518437208883
     ·
      rw [if_pos c25] at H; have LMc25 := Aside0.mk c25; clear c25; obtain ⟨y333, hy333⟩ : ∃ y_ : List (S37), y_ = (y330 ++ l0) := ⟨_, rfl⟩; replace H : (some (y333, 3)) = some (r1, r2) := rh_ hy333 H; have Ny333 := Aside0.mk hy333; clear hy333; simp only [Option.some.injEq, Prod.mk.injEq] at H; obtain ⟨rfl, rfl⟩ := H; have hcz26_0 : wc.cell? ⟨gb317, 0, none⟩ = some (.int .i64 a1_0) := (blk_cell BK317.out 0).trans rfl; have hcz26_1 : wc.cell? ⟨gb317, 1, none⟩ = some (.int .i64 a1_1) := (blk_cell BK317.out 1).trans rfl; have hcz26_2 : wc.cell? ⟨gb317, 2, none⟩ = some (.int .i64 a1_2) := (blk_cell BK317.out 2).trans rfl; have hcz26_3 : wc.cell? ⟨gb317, 3, none⟩ = some (.int .i64 a1_3) := (blk_cell BK317.out 3).trans rfl; have hcz26_4 : wc.cell? ⟨gb317, 4, none⟩ = some (.int .i64 a1_4) := (blk_cell BK317.out 4).trans rfl; have hfz26_0 := blk_frozen BK317.out 0; have hfz26_1 := blk_frozen BK317.out 1; have hfz26_2 := blk_frozen BK317.out 2; have hfz26_3 := blk_frozen BK317.out 3; have hfz26_4 := blk_frozen BK317.out 4
      go_wp2_with (first | ((with_reducible refine gate_dst (N := 18) rfl ?_); refine Kd.R_lit k37 _ 37 ?hg (N := 18) ?hd (xs := ([(⟨a1_0, a1_1, a1_2, a1_3, a1_4⟩ : S37)] : List (S37))) (inner := [.int .i64 a1_0, .int .i64 a1_1, .int .i64 a1_2, .int .i64 a1_3, .int .i64 a1_4]) (ok := fun _ => True) (okp := fun _ => True) ?hr ?hp (fun _ hk => hk) trivial (Below.refl _ _) (Nat.le_refl _) (by simp) ?_; (case hd => rfl); (case hg => rfl); (case hr => first | (go_simp; done) | (go_simp; rfl)); (case hp => exact (Reps.c5 (show Kd.M k37 _ _ _ (⟨a1_0, a1_1, a1_2, a1_3, a1_4⟩ : S37) [.int .i64 a1_0, .int .i64 a1_1, .int .i64 a1_2, .int .i64 a1_3, .int .i64 a1_4] from (k37_mkM _ _ _ (⟨a1_0, a1_1, a1_2, a1_3, a1_4⟩ : S37) )) (Reps.none _ _))); intro v324 w27 ho28 hb hg_ hnew_; clear hg_ hnew_; (first | rw [← Ny323.out] at ho28 | (simp only [Int.reduceToNat] at ho28; rw [← Ny323.out] at ho28)); have n_ := as3_ (Kd.R_lower (Kd.R_newB ho28 (g := gb317) (o := .cells #[.int .i64 a1_0, .int .i64 a1_1, .int .i64 a1_2, .int .i64 a1_3, .int .i64 a1_4] 37 (0, 0)) (pb_ BK317.out)) (below_size (bg_ GE317.out))) (blk_below (g := gb317) (o := .cells #[.int .i64 a1_0, .int .i64 a1_1, .int .i64 a1_2, .int .i64 a1_3, .int .i64 a1_4] 37 (0, 0)) (pb_ BK317.out) hb) (below_step (bg_ GE317.out) hb); clear BK317 HB; obtain ⟨HO325, BK317, HB⟩ := n_; clear hb ho28; obtain ⟨Ao29, co29, eo29⟩ := Kd.R_slice HO325.out; subst eo29) | ((with_reducible refine gate_callee (f := 53) rfl ?_); refine goesL_ (some 19) rfl rfl Try.func53 kr_ rfl #[.slice A0 l0.length c0, .slice Ao29 y323.length co29] rfl (bc_) ?_; (with_reducible refine (spec_l5Merge.calls kj2 _ _ l0 _ _ y323 t326 _ ?side1 ?side2 ?side3 ?side4 A15.out).mono ?_); (case side1 => exact cc_ (Kd.C_below HR0.out HB.out)); (case side2 => exact HC0.out); (case side3 => exact cc_ (Kd.R_reads' HO325.out).2.2); (case side4 => exact (Kd.R_reads' HO325.out).2.1); rintro e w30 ⟨v327, rfl, ho0, hb⟩; refine ⟨_, rfl, ?_⟩; have n_ := as4_ (Kd.R_elder' (pe_ HO325.out) (Kd.R_base ho0) hb) (Kd.R_lower (Kd.R_newB (Kd.R_new' ho0 (Kd.R_lt (pe_ HO325.out))) (g := gb317) (o := .cells #[.int .i64 a1_0, .int .i64 a1_1, .int .i64 a1_2, .int .i64 a1_3, .int .i64 a1_4] 37 (0, 0)) (pb_ BK317.out)) (below_size (bg_ GE317.out))) (blk_below (g := gb317) (o := .cells #[.int .i64 a1_0, .int .i64 a1_1, .int .i64 a1_2, .int .i64 a1_3, .int .i64 a1_4] 37 (0, 0)) (pb_ BK317.out) hb) (below_step (bg_ GE317.out) hb); clear HO325 BK317 HB; obtain ⟨HO325, HO328, BK317, HB⟩ := n_; (try clear hb); (try clear ho0); obtain ⟨Ao31, co31, eo31⟩ := Kd.R_slice HO328.out; subst eo31) | ((with_reducible refine gate_callee (f := 15) rfl ?_); refine goesL_ (some 21) rfl rfl Try.func15 kr_ rfl #[.slice Ao31 t326.length co31] rfl (bc_) ?_; (with_reducible refine (spec_LotsOk.calls kj2 _ _ t326 false _ ?side1 ?side2 A16.out).mono ?_); (case side1 => exact cc_ (Kd.R_reads' HO328.out).2.2); (case side2 => exact (Kd.R_reads' HO328.out).2.1); rintro e w32 ⟨rfl, hb⟩; refine ⟨_, rfl, ?_⟩; have n_ := as4_ (Kd.R_below (pe_ HO325.out) hb) (Kd.R_below (pe_ HO328.out) hb) (blk_below (g := gb317) (o := .cells #[.int .i64 a1_0, .int .i64 a1_1, .int .i64 a1_2, .int .i64 a1_3, .int .i64 a1_4] 37 (0, 0)) (pb_ BK317.out) hb) (below_step (bg_ GE317.out) hb); clear HO325 HO328 BK317 HB; obtain ⟨HO325, HO328, BK317, HB⟩ := n_; (try clear hb)) | ((with_reducible refine gate_dst (N := 23) rfl ?_); refine Kd.R_lit k37 _ 37 ?hg (N := 23) ?hd (xs := ([] : List (S37))) (inner := []) (ok := fun _ => True) (okp := fun _ => True) ?hr ?hp (fun _ hk => hk) trivial (Below.refl _ _) (Nat.le_refl _) (by simp) ?_; (case hd => rfl); (case hg => rfl); (case hr => first | (go_simp; done) | (go_simp; rfl)); (case hp => exact (Reps.none _ _)); intro v331 w33 ho34 hb hg_ hnew_; clear hg_ hnew_; (first | rw [← Ny330.out] at ho34 | (simp only [Int.reduceToNat] at ho34; rw [← Ny330.out] at ho34)); have n_ := as5_ (Kd.R_elder' (pe_ HO325.out) (Kd.R_base ho34) hb) (Kd.R_elder' (pe_ HO328.out) (Kd.R_base ho34) hb) (Kd.R_lower (Kd.R_newB (Kd.R_new' (Kd.R_new' ho34 (Kd.R_lt (pe_ HO325.out))) (Kd.R_lt (pe_ HO328.out))) (g := gb317) (o := .cells #[.int .i64 a1_0, .int .i64 a1_1, .int .i64 a1_2, .int .i64 a1_3, .int .i64 a1_4] 37 (0, 0)) (pb_ BK317.out)) (below_size (bg_ GE317.out))) (blk_below (g := gb317) (o := .cells #[.int .i64 a1_0, .int .i64 a1_1, .int .i64 a1_2, .int .i64 a1_3, .int .i64 a1_4] 37 (0, 0)) (pb_ BK317.out) hb) (below_step (bg_ GE317.out) hb); clear HO325 HO328 BK317 HB; obtain ⟨HO325, HO328, HO332, BK317, HB⟩ := n_; clear hb ho34) | ((with_reducible refine gate_builtin (b := .append) (xs := #[.tmp 23, .tmp 24]) rfl ?_); at_builtin; refine Kd.R_append_rows k37 (w0 := w) w.heap.size rfl (.tmp 23) (.tmp 24) 25 37 (.agg #[(.int .i64 0), (.int .i64 0), (.int .i64 0), (.int .i64 0), (.int .i64 0)]) 40 rfl Try.underlying25 info37 rfl (by decide) (by omega) v331 y330 l0 _ _ _ (fun k_ => some k_ ≠ (.slice Ao29 y323.length co29 : Value).ownBlock ∧ some k_ ≠ (.slice Ao31 t326.length co31 : Value).ownBlock ∧ k_ ≠ gb317) (fun _ => False) rfl rfl ?aO ?aR (fun _ _ h => h) (fun _ h => h.elim) ?aF ?aB ?aS ?aL ?_; (case aR => exact cc_ (Kd.C_below HR0.out HB.out)); (case aB => exact (bg_ GE317.out)); (case aF => exact (fun k_ hk => ⟨Kd.fresh' (Kd.R_lt (pe_ HO325.out)) k_ hk, Kd.fresh' (Kd.R_lt (pe_ HO328.out)) k_ hk, Kd.freshB (g := gb317) (o := .cells #[.int .i64 a1_0, .int .i64 a1_1, .int .i64 a1_2, .int .i64 a1_3, .int .i64 a1_4] 37 (0, 0)) (pb_ BK317.out) k_ hk⟩)); (case aO => exact (by (with_reducible repeat (first | apply Kd.R_alloc | apply Kd.R_drewN | apply Kd.R_drew)); exact Kd.R_mono HO332.out (fun _ hk => ⟨hk.1.1.2, ⟨hk.1.2, hk.2⟩⟩))); (case aS => exact (below_size (bg_ GE317.out))); (case aL => have := LMc25.out; omega); intro v334 w35 ho hb hg hat; rw [← Ny333.out] at ho; have n_ := as5_ (blk_grown (g := gb317) (o := .cells #[.int .i64 a1_0, .int .i64 a1_1, .int .i64 a1_2, .int .i64 a1_3, .int .i64 a1_4] 37 (0, 0)) (pb_ BK317.out) hg (Kd.R_away HO332.out (fun _ hk => hk.2))) (Kd.R_after (ok := (fun k_ => some k_ ≠ (.slice Ao31 t326.length co31 : Value).ownBlock ∧ k_ ≠ gb317)) (by (with_reducible repeat (first | apply Kd.R_alloc | apply Kd.R_drewN | apply Kd.R_drew)); exact Kd.R_mono HO325.out (fun _ hk => ⟨⟨hk.1.2, hk.1.1.2⟩, hk.2⟩)) hg hat) (Kd.R_after (ok := (fun k_ => some k_ ≠ (.slice Ao29 y323.length co29 : Value).ownBlock ∧ k_ ≠ gb317)) (by (with_reducible repeat (first | apply Kd.R_alloc | apply Kd.R_drewN | apply Kd.R_drew)); exact Kd.R_mono HO328.out (fun _ hk => ⟨⟨hk.1.1.2, hk.1.2⟩, hk.2⟩)) hg hat) (hb) (ho); clear BK317 HO325 HO328 HB HO332; obtain ⟨BK317, HO325, HO328, HB, HO335⟩ := n_; clear ho hb hg hat))
      go_ret2; exact ⟨_, er_, by (with_reducible repeat (first | apply Kd.R_alloc | apply Kd.R_drewN | apply Kd.R_drew)); exact Kd.R_mono HO335.out (fun _ hk => trivial), bg_ GE317.out⟩
     ·
      rw [if_neg c25] at H; exact absurd H (by simp)
end Go.Proofs.Ytomanpmffjkkgaa.P
