/- What the law FnExactTradesOpen leans on, cut out of this repo's own texts by a program of this repo: plain functions, the walks that tie the Go calls to them, the law over lists and numbers, and the row. -/
import Derived.Test.YtmfgajbkcnlkcaaZFnExactTradesOpen1
import Derived.Orders
import Derived.Laws.AppendOwn
import Derived.Laws.MakeOwn
import Derived.Below
import Derived.Tactics
import Derived.Laws.BitsLemmas
import Derived.RowKit
import Derived.Laws.Small
import Derived.WalkKit
import Derived.Laws.OwnMore
import Derived.Laws.Entries
import Derived.Laws.Cells
import Derived.Laws.CopyRow
import Derived.Laws.Tables
import Derived.Maps.AppendAt
set_option maxHeartbeats 8000000
set_option maxRecDepth 100000
namespace Go.Proofs.Ytmfgajbkcnlkcaa.P
open Go.RowKit Go.Proofs.YtmfgajbkcnlkcaaW.PrintWords Go.Proofs.YtmfgajbkcnlkcaaW.PrintLast Go.Proofs.YtmfgajbkcnlkcaaW.PrintMore
attribute [local go_sem] max2_int min2_int max_two min_two max_three min_three max_four min_four   -- for this text's walks alone
set_option linter.unusedVariables false
set_option linter.unusedSimpArgs false
theorem IndexFunc_st50.calls (A0 : Option Addr) (c0 : Nat) (l0 : List (S50)) (fc : FuncId) (caps : Array Value) (p : S50 → Bool) (w : World) (hr0 : Kd.C k50 w A0 l0.length l0) (hc0 : l0.length ≤ c0) (hp : X0.FnB Try.prog fc caps w (fun x => .agg #[.int .i64 x.f0, .int .i64 x.f1, .int .i64 x.f2, .int .i64 x.f3, .int .i64 x.f4, .int .i64 x.f5, .int .i64 x.f6, .int .i64 x.f7]) p) :
 Calls Try.prog 105 #[.slice A0 l0.length c0, .func (.func fc) #[] caps] w fun e w' => e = .returned (.int .i64 (X0.idx p l0)) ∧ Below w.heap.size w w' := by
 obtain ⟨fn, hf, hn, hb, hcall⟩ := hp
 have HR0 := Aside0.mk hr0
 have HC0 := Aside0.mk hc0
 have HF := Aside0.mk hf
 have HN := Aside0.mk hn
 have HBo := Aside0.mk hb
 have HP := Aside0.mk hcall
 have HM := Aside0.mk (Kd.C_max hr0)
 clear hr0 hc0 hf hn hb hcall
 have HB := Aside0.mk (Below.refl w.heap.size w)
 have hu50 := Try.underlying50
 go_enter Try.func105, Try.ntmps105
 go_wp2
 go_loopg [8] l0.length (fun kq v8 w' => ∃ (x : Int), v8 = .int .i64 x ∧ Aside0 (0 ≤ x ∧ x ≤ l0.length ∧ kq = (l0.length - x).toNat ∧ ∀ j : Nat, j < x.toNat → p (l0.getD j z50) = false) ∧ Aside0 (Below w.heap.size w w'))
 case atStart => exact ⟨0, rfl, ⟨Int.le_refl _, by omega, by omega, fun j hj => by omega⟩, ⟨HB.out⟩⟩
 case round =>
  obtain ⟨x, rfl, HA, HB⟩ := hrel
  by_cases c2 : x < (l0.length : Int)
  ·
   have p1 : 0 ≤ x := HA.out.1
   obtain ⟨ad, e, hx_0, hx_1, hx_2, hx_3, hx_4, hx_5, hx_6, hx_7⟩ := at_T50 HR0.out x p1 c2
   cases e
   replace hx_0 := (HB.out.cell (World.block_lt_of_cell? w _ hx_0)).trans hx_0
   replace hx_1 := (HB.out.cell (World.block_lt_of_cell? w _ hx_1)).trans hx_1
   replace hx_2 := (HB.out.cell (World.block_lt_of_cell? w _ hx_2)).trans hx_2
   replace hx_3 := (HB.out.cell (World.block_lt_of_cell? w _ hx_3)).trans hx_3
   replace hx_4 := (HB.out.cell (World.block_lt_of_cell? w _ hx_4)).trans hx_4
   replace hx_5 := (HB.out.cell (World.block_lt_of_cell? w _ hx_5)).trans hx_5
   replace hx_6 := (HB.out.cell (World.block_lt_of_cell? w _ hx_6)).trans hx_6
   replace hx_7 := (HB.out.cell (World.block_lt_of_cell? w _ hx_7)).trans hx_7
   have c2b0 : decide (x < (l0.length : Int)) = true := decide_eq_true c2
   have C2 := Aside0.mk c2
   replace p1 := eq_true p1
   have q1 := eq_true c2
   clear c2
   cases hpx : p (rd_T50 l0 x) with
   | true =>
    have HX := Aside0.mk hpx
    clear hpx
    go_wp2_with (first | ((with_reducible refine gate_dst (N := 16) rfl ?_); refine X0.goesV_ (some 16) rfl rfl caps HF.out HN.out HBo.out #[.agg #[.int .i64 (rd_T50 l0 x).f0, .int .i64 (rd_T50 l0 x).f1, .int .i64 (rd_T50 l0 x).f2, .int .i64 (rd_T50 l0 x).f3, .int .i64 (rd_T50 l0 x).f4, .int .i64 (rd_T50 l0 x).f5, .int .i64 (rd_T50 l0 x).f6, .int .i64 (rd_T50 l0 x).f7]] rfl rfl (by (try simp only [List.map_toArray, List.map_cons, List.map_nil]); first | done | rfl) ?_; refine (HP.out (rd_T50 l0 x) _ HB.out).mono ?_; rintro e w6 ⟨rfl, hb6⟩; refine ⟨_, rfl, ?_⟩; rw [HX.out]; have n0_ := Aside0.mk (below_step HB.out hb6); clear HB; have HB := n0_; clear n0_ hb6))
    go_ret
    exact ⟨by
     have := HA.out
     have h2 := C2.out
     have e1 : rd_T50 l0 x = l0.getD x.toNat z50 := rfl
     have h3 := HX.out
     rw [e1] at h3
     rw [X0.idx_found p z50 l0 x.toNat (by omega) this.2.2.2 h3, Int.toNat_of_nonneg this.1]
     rfl, HB.out⟩
   | false =>
    have HX := Aside0.mk hpx
    clear hpx
    go_wp2_with (first | ((with_reducible refine gate_dst (N := 16) rfl ?_); refine X0.goesV_ (some 16) rfl rfl caps HF.out HN.out HBo.out #[.agg #[.int .i64 (rd_T50 l0 x).f0, .int .i64 (rd_T50 l0 x).f1, .int .i64 (rd_T50 l0 x).f2, .int .i64 (rd_T50 l0 x).f3, .int .i64 (rd_T50 l0 x).f4, .int .i64 (rd_T50 l0 x).f5, .int .i64 (rd_T50 l0 x).f6, .int .i64 (rd_T50 l0 x).f7]] rfl rfl (by (try simp only [List.map_toArray, List.map_cons, List.map_nil]); first | done | rfl) ?_; refine (HP.out (rd_T50 l0 x) _ HB.out).mono ?_; rintro e w6 ⟨rfl, hb6⟩; refine ⟨_, rfl, ?_⟩; rw [HX.out]; have n0_ := Aside0.mk (below_step HB.out hb6); clear HB; have HB := n0_; clear n0_ hb6))
    go_roundg (l0.length - (x + 1)).toNat
    case measure => have := HA.out; have := C2.out; omega
    case rel =>
     have h1 := HA.out
     have h2 := C2.out
     have h4 := HM.out
     refine ⟨wrap64 (x + 1), (by first | rfl | (simp; done) | (simp [*]; done)), ⟨?_⟩, ⟨HB.out⟩⟩
     have hw : wrap64 (x + 1) = x + 1 := by unfold wrap64; omega
     rw [hw]
     refine ⟨by omega, by omega, rfl, fun j hj => ?_⟩
     by_cases hj2 : j < x.toNat
     ·
      exact h1.2.2.2 j hj2
     ·
      obtain rfl : j = x.toNat := by omega
      exact HX.out
  ·
   have c2b0 : decide (x < (l0.length : Int)) = false := decide_eq_false c2
   have C2 := Aside0.mk c2
   clear c2
   go_wp2
   go_ret
   exact ⟨by
    have := HA.out
    have h2 := C2.out
    rw [X0.idx_none p z50 l0 fun j hj => this.2.2.2 j (by omega)]
    rfl, HB.out⟩
theorem ContainsFunc_st50.calls (A0 : Option Addr) (c0 : Nat) (l0 : List (S50)) (fc : FuncId) (caps : Array Value) (p : S50 → Bool) (w : World) (hr0 : Kd.C k50 w A0 l0.length l0) (hc0 : l0.length ≤ c0) (hp : X0.FnB Try.prog fc caps w (fun x => .agg #[.int .i64 x.f0, .int .i64 x.f1, .int .i64 x.f2, .int .i64 x.f3, .int .i64 x.f4, .int .i64 x.f5, .int .i64 x.f6, .int .i64 x.f7]) p) :
 Calls Try.prog 103 #[.slice A0 l0.length c0, .func (.func fc) #[] caps] w fun e w' => e = .returned (.bool (l0.any p)) ∧ Below w.heap.size w w' := by
 have HI := Aside0.mk (IndexFunc_st50.calls A0 c0 l0 fc caps p w hr0 hc0 hp)
 clear hr0 hc0 hp
 go_enter Try.func103, Try.ntmps103
 go_wp2_with (first | (go_at_call 105; refine HI.out.mono ?_; rintro e w6 ⟨rfl, hb6⟩; have HB := Aside0.mk hb6; clear hb6))
 go_ret
 exact ⟨by
  rw [← X0.idx_any p l0]
  rfl, HB.out⟩
def impl_tradesRight.ak (l : List (S88)) (a : Int) : Int := match l with
 | [] => 0
 | x :: xs => if x.f0 = a then x.f1 else impl_tradesRight.ak xs a
theorem impl_tradesRight.ak_go (l : List (S88)) (a : Int) (hl : l.length < 1048577) : ∀ (n i : Nat), l.length - i = n → i ≤ l.length → impl_accountKind.l0 (n + 1) a l (l.length : Int) (i : Int) = some (impl_tradesRight.ak (l.drop i) a)
 | 0, i, hn, hi => by
  obtain rfl : i = l.length := by omega
  rw [impl_accountKind.l0, if_neg (by omega), List.drop_length]
  rfl
 | n + 1, i, hn, hi => by
  have h1 : i < l.length := by omega
  have hw : wrap64 ((i : Int) + 1) = ((i + 1 : Nat) : Int) := by
   unfold wrap64
   omega
  have e : rd_T88 l (i : Int) = l[i] := by
   unfold rd_T88
   rw [Int.toNat_natCast, List.getD_eq_getElem?_getD, List.getElem?_eq_getElem h1]
   rfl
  rw [impl_accountKind.l0, if_pos (by omega), if_pos (by omega), if_pos (by omega), hw, impl_tradesRight.ak_go l a hl n (i + 1) (by omega) (by omega), List.drop_eq_getElem_cons h1, e, impl_tradesRight.ak]
  by_cases h : l[i].f0 = a
  ·
   rw [if_pos h, if_pos h]
  ·
   rw [if_neg h, if_neg h]
theorem impl_tradesRight.ak_ (l : List (S88)) (a : Int) (hl : l.length < 1048577) : impl_accountKind.f (l.length + 1) l a = some (impl_tradesRight.ak l a) := impl_tradesRight.ak_go l a hl l.length 0 (by omega) (by omega)
def impl_tradesRight.ik (l : List (S90)) (a : Int) : Int := match l with
 | [] => 0
 | x :: xs => if x.f0 = a then x.f1 else impl_tradesRight.ik xs a
theorem impl_tradesRight.ik_go (l : List (S90)) (a : Int) (hl : l.length < 1048577) : ∀ (n i : Nat), l.length - i = n → i ≤ l.length → impl_instrKind.l0 (n + 1) a l (l.length : Int) (i : Int) = some (impl_tradesRight.ik (l.drop i) a)
 | 0, i, hn, hi => by
  obtain rfl : i = l.length := by omega
  rw [impl_instrKind.l0, if_neg (by omega), List.drop_length]
  rfl
 | n + 1, i, hn, hi => by
  have h1 : i < l.length := by omega
  have hw : wrap64 ((i : Int) + 1) = ((i + 1 : Nat) : Int) := by
   unfold wrap64
   omega
  have e : rd_T90 l (i : Int) = l[i] := by
   unfold rd_T90
   rw [Int.toNat_natCast, List.getD_eq_getElem?_getD, List.getElem?_eq_getElem h1]
   rfl
  rw [impl_instrKind.l0, if_pos (by omega), if_pos (by omega), if_pos (by omega), hw, impl_tradesRight.ik_go l a hl n (i + 1) (by omega) (by omega), List.drop_eq_getElem_cons h1, e, impl_tradesRight.ik]
  by_cases h : l[i].f0 = a
  ·
   rw [if_pos h, if_pos h]
  ·
   rw [if_neg h, if_neg h]
theorem impl_tradesRight.ik_ (l : List (S90)) (a : Int) (hl : l.length < 1048577) : impl_instrKind.f (l.length + 1) l a = some (impl_tradesRight.ik l a) := impl_tradesRight.ik_go l a hl l.length 0 (by omega) (by omega)
def impl_tradesRight.bad (l0 : List (S88)) (l1 : List (S90)) (x : S50) : Bool := (impl_tradesRight.ak l0 x.f1 != 1) || (impl_tradesRight.ak l0 x.f2 != 1) || (impl_tradesRight.ik l1 x.f3 != 2) || (impl_tradesRight.ik l1 x.f5 != 1)
def impl_tradesRight.f (l0_0 : List (S88)) (l0_1 : List (S90)) (_l0_2 : List (S93)) (_l0_3 : List (S96)) (l0_4 : List (S50)) (_a0_5 : Int) : Option Bool := if l0_0.length < 1048577 ∧ l0_1.length < 1048577 then some (!(l0_4.any (impl_tradesRight.bad l0_0 l0_1))) else none
theorem impl_tradesRight.clo (B : Nat) (A0 : Option Addr) (c0 : Nat) (l0 : List (S88)) (A1 : Option Addr) (c1 : Nat) (l1 : List (S90)) (x : S50) (W : World) (h0 : W.cell? ⟨B, 0, none⟩ = some (.slice A0 l0.length c0)) (h1 : W.cell? ⟨B, 1, none⟩ = some (.slice A1 l1.length c1)) (hC0 : Kd.C k88 W A0 l0.length l0) (hC1 : Kd.C k90 W A1 l1.length l1) (hc0 : l0.length ≤ c0) (hc1 : l1.length ≤ c1) (hl0 : l0.length < 1048577) (hl1 : l1.length < 1048577) :
 Calls Try.prog 104 #[.agg #[.int .i64 x.f0, .int .i64 x.f1, .int .i64 x.f2, .int .i64 x.f3, .int .i64 x.f4, .int .i64 x.f5, .int .i64 x.f6, .int .i64 x.f7], .pointer (some ⟨B, 0, none⟩)] W fun e W' => e = .returned (.bool (impl_tradesRight.bad l0 l1 x)) ∧ Below W.heap.size W W' := by
 have HB := Aside0.mk (Below.refl W.heap.size W)
 have G0 := Aside0.mk h0
 have G1 := Aside0.mk h1
 have HO : Aside0 (impl_tradesRight.bad l0 l1 x = ((impl_tradesRight.ak l0 x.f1 != 1) || (impl_tradesRight.ak l0 x.f2 != 1) || (impl_tradesRight.ik l1 x.f3 != 2) || (impl_tradesRight.ik l1 x.f5 != 1))) := ⟨rfl⟩
 have HK1 := Aside0.mk (show ∀ W2, Below W.heap.size W W2 → Calls Try.prog 99 #[.slice A0 l0.length c0, .int .i64 x.f1] W2 fun e W' => e = .returned (.int .i64 (impl_tradesRight.ak l0 x.f1)) ∧ Below W2.heap.size W2 W' from fun W2 hW2 => impl_accountKind.calls _ A0 c0 l0 x.f1 _ W2 (Kd.C_below hC0 hW2) hc0 (impl_tradesRight.ak_ l0 x.f1 hl0))
 have HK2 := Aside0.mk (show ∀ W2, Below W.heap.size W W2 → Calls Try.prog 99 #[.slice A0 l0.length c0, .int .i64 x.f2] W2 fun e W' => e = .returned (.int .i64 (impl_tradesRight.ak l0 x.f2)) ∧ Below W2.heap.size W2 W' from fun W2 hW2 => impl_accountKind.calls _ A0 c0 l0 x.f2 _ W2 (Kd.C_below hC0 hW2) hc0 (impl_tradesRight.ak_ l0 x.f2 hl0))
 have HK3 := Aside0.mk (show ∀ W2, Below W.heap.size W W2 → Calls Try.prog 100 #[.slice A1 l1.length c1, .int .i64 x.f3] W2 fun e W' => e = .returned (.int .i64 (impl_tradesRight.ik l1 x.f3)) ∧ Below W2.heap.size W2 W' from fun W2 hW2 => impl_instrKind.calls _ A1 c1 l1 x.f3 _ W2 (Kd.C_below hC1 hW2) hc1 (impl_tradesRight.ik_ l1 x.f3 hl1))
 have HK4 := Aside0.mk (show ∀ W2, Below W.heap.size W W2 → Calls Try.prog 100 #[.slice A1 l1.length c1, .int .i64 x.f5] W2 fun e W' => e = .returned (.int .i64 (impl_tradesRight.ik l1 x.f5)) ∧ Below W2.heap.size W2 W' from fun W2 hW2 => impl_instrKind.calls _ A1 c1 l1 x.f5 _ W2 (Kd.C_below hC1 hW2) hc1 (impl_tradesRight.ik_ l1 x.f5 hl1))
 generalize impl_tradesRight.bad l0 l1 x = o at HO ⊢
 generalize impl_tradesRight.ak l0 x.f1 = k1 at HO HK1
 generalize impl_tradesRight.ak l0 x.f2 = k2 at HO HK2
 generalize impl_tradesRight.ik l1 x.f3 = k3 at HO HK3
 generalize impl_tradesRight.ik l1 x.f5 = k4 at HO HK4
 clear h0 h1 hC0 hC1 hc0 hc1 hl0 hl1
 cases e1 : (k1 != 1) with
 | true =>
  obtain rfl : o = true := by rw [HO.out]; simp [e1]
  clear HO
  go_enter Try.func104, Try.ntmps104
  go_wp2_with (first | ((with_reducible refine gate_dst (N := 2) rfl ?_); refine box_event ?hg (N := 2) ?hd (cs := #[.int .i64 x.f0, .int .i64 x.f1, .int .i64 x.f2, .int .i64 x.f3, .int .i64 x.f4, .int .i64 x.f5, .int .i64 x.f6, .int .i64 x.f7]) (t := 50) ?hr ?_; (case hd => rfl); (case hg => rfl); (case hr => first | (go_simp; done) | (go_simp; rfl)); intro gb hg w5 hbox hb; have n0_ := Aside0.mk (below_step HB.out hb); clear HB; have HB := n0_; have BK := Aside0.mk hbox; clear n0_ hb hbox hg; have hc1_w5 : w5.cell? ⟨gb, 1, none⟩ = some (.int .i64 x.f1) := (blk_cell BK.out 1).trans rfl; have hc2_w5 : w5.cell? ⟨gb, 2, none⟩ = some (.int .i64 x.f2) := (blk_cell BK.out 2).trans rfl; have hc3_w5 : w5.cell? ⟨gb, 3, none⟩ = some (.int .i64 x.f3) := (blk_cell BK.out 3).trans rfl; have hc5_w5 : w5.cell? ⟨gb, 5, none⟩ = some (.int .i64 x.f5) := (blk_cell BK.out 5).trans rfl; have g0_w5 := (HB.out.cell (World.block_lt_of_cell? W _ G0.out)).trans G0.out; have g1_w5 := (HB.out.cell (World.block_lt_of_cell? W _ G1.out)).trans G1.out) | (go_at_call 99; (with_reducible refine (HK1.out _ HB.out).mono ?_); rintro e w6 ⟨rfl, hb⟩; have n0_ := Aside0.mk (below_step HB.out hb); have n1_ := Aside0.mk (blk_below BK.out hb); clear HB BK; have HB := n0_; have BK := n1_; clear n0_ n1_ hb; have hc1_w6 : w6.cell? ⟨gb, 1, none⟩ = some (.int .i64 x.f1) := (blk_cell BK.out 1).trans rfl; have hc2_w6 : w6.cell? ⟨gb, 2, none⟩ = some (.int .i64 x.f2) := (blk_cell BK.out 2).trans rfl; have hc3_w6 : w6.cell? ⟨gb, 3, none⟩ = some (.int .i64 x.f3) := (blk_cell BK.out 3).trans rfl; have hc5_w6 : w6.cell? ⟨gb, 5, none⟩ = some (.int .i64 x.f5) := (blk_cell BK.out 5).trans rfl; have g0_w6 := (HB.out.cell (World.block_lt_of_cell? W _ G0.out)).trans G0.out; have g1_w6 := (HB.out.cell (World.block_lt_of_cell? W _ G1.out)).trans G1.out))
  go_ret
  exact ⟨by first | rfl | (simp; done) | (simp [*]; done), HB.out⟩
 | false =>
  cases e2 : (k2 != 1) with
  | true =>
   obtain rfl : o = true := by rw [HO.out]; simp [e1, e2]
   clear HO
   go_enter Try.func104, Try.ntmps104
   go_wp2_with (first | ((with_reducible refine gate_dst (N := 2) rfl ?_); refine box_event ?hg (N := 2) ?hd (cs := #[.int .i64 x.f0, .int .i64 x.f1, .int .i64 x.f2, .int .i64 x.f3, .int .i64 x.f4, .int .i64 x.f5, .int .i64 x.f6, .int .i64 x.f7]) (t := 50) ?hr ?_; (case hd => rfl); (case hg => rfl); (case hr => first | (go_simp; done) | (go_simp; rfl)); intro gb hg w5 hbox hb; have n0_ := Aside0.mk (below_step HB.out hb); clear HB; have HB := n0_; have BK := Aside0.mk hbox; clear n0_ hb hbox hg; have hc1_w5 : w5.cell? ⟨gb, 1, none⟩ = some (.int .i64 x.f1) := (blk_cell BK.out 1).trans rfl; have hc2_w5 : w5.cell? ⟨gb, 2, none⟩ = some (.int .i64 x.f2) := (blk_cell BK.out 2).trans rfl; have hc3_w5 : w5.cell? ⟨gb, 3, none⟩ = some (.int .i64 x.f3) := (blk_cell BK.out 3).trans rfl; have hc5_w5 : w5.cell? ⟨gb, 5, none⟩ = some (.int .i64 x.f5) := (blk_cell BK.out 5).trans rfl; have g0_w5 := (HB.out.cell (World.block_lt_of_cell? W _ G0.out)).trans G0.out; have g1_w5 := (HB.out.cell (World.block_lt_of_cell? W _ G1.out)).trans G1.out) | (go_at_call 99; (with_reducible refine (HK1.out _ HB.out).mono ?_); rintro e w6 ⟨rfl, hb⟩; have n0_ := Aside0.mk (below_step HB.out hb); have n1_ := Aside0.mk (blk_below BK.out hb); clear HB BK; have HB := n0_; have BK := n1_; clear n0_ n1_ hb; have hc1_w6 : w6.cell? ⟨gb, 1, none⟩ = some (.int .i64 x.f1) := (blk_cell BK.out 1).trans rfl; have hc2_w6 : w6.cell? ⟨gb, 2, none⟩ = some (.int .i64 x.f2) := (blk_cell BK.out 2).trans rfl; have hc3_w6 : w6.cell? ⟨gb, 3, none⟩ = some (.int .i64 x.f3) := (blk_cell BK.out 3).trans rfl; have hc5_w6 : w6.cell? ⟨gb, 5, none⟩ = some (.int .i64 x.f5) := (blk_cell BK.out 5).trans rfl; have g0_w6 := (HB.out.cell (World.block_lt_of_cell? W _ G0.out)).trans G0.out; have g1_w6 := (HB.out.cell (World.block_lt_of_cell? W _ G1.out)).trans G1.out) | (go_at_call 99; (with_reducible refine (HK2.out _ HB.out).mono ?_); rintro e w7 ⟨rfl, hb⟩; have n0_ := Aside0.mk (below_step HB.out hb); have n1_ := Aside0.mk (blk_below BK.out hb); clear HB BK; have HB := n0_; have BK := n1_; clear n0_ n1_ hb; have hc1_w7 : w7.cell? ⟨gb, 1, none⟩ = some (.int .i64 x.f1) := (blk_cell BK.out 1).trans rfl; have hc2_w7 : w7.cell? ⟨gb, 2, none⟩ = some (.int .i64 x.f2) := (blk_cell BK.out 2).trans rfl; have hc3_w7 : w7.cell? ⟨gb, 3, none⟩ = some (.int .i64 x.f3) := (blk_cell BK.out 3).trans rfl; have hc5_w7 : w7.cell? ⟨gb, 5, none⟩ = some (.int .i64 x.f5) := (blk_cell BK.out 5).trans rfl; have g0_w7 := (HB.out.cell (World.block_lt_of_cell? W _ G0.out)).trans G0.out; have g1_w7 := (HB.out.cell (World.block_lt_of_cell? W _ G1.out)).trans G1.out))
   go_ret
   exact ⟨by first | rfl | (simp; done) | (simp [*]; done), HB.out⟩
  | false =>
   cases e3 : (k3 != 2) with
   | true =>
    obtain rfl : o = true := by rw [HO.out]; simp [e1, e2, e3]
    clear HO
    go_enter Try.func104, Try.ntmps104
    go_wp2_with (first | ((with_reducible refine gate_dst (N := 2) rfl ?_); refine box_event ?hg (N := 2) ?hd (cs := #[.int .i64 x.f0, .int .i64 x.f1, .int .i64 x.f2, .int .i64 x.f3, .int .i64 x.f4, .int .i64 x.f5, .int .i64 x.f6, .int .i64 x.f7]) (t := 50) ?hr ?_; (case hd => rfl); (case hg => rfl); (case hr => first | (go_simp; done) | (go_simp; rfl)); intro gb hg w5 hbox hb; have n0_ := Aside0.mk (below_step HB.out hb); clear HB; have HB := n0_; have BK := Aside0.mk hbox; clear n0_ hb hbox hg; have hc1_w5 : w5.cell? ⟨gb, 1, none⟩ = some (.int .i64 x.f1) := (blk_cell BK.out 1).trans rfl; have hc2_w5 : w5.cell? ⟨gb, 2, none⟩ = some (.int .i64 x.f2) := (blk_cell BK.out 2).trans rfl; have hc3_w5 : w5.cell? ⟨gb, 3, none⟩ = some (.int .i64 x.f3) := (blk_cell BK.out 3).trans rfl; have hc5_w5 : w5.cell? ⟨gb, 5, none⟩ = some (.int .i64 x.f5) := (blk_cell BK.out 5).trans rfl; have g0_w5 := (HB.out.cell (World.block_lt_of_cell? W _ G0.out)).trans G0.out; have g1_w5 := (HB.out.cell (World.block_lt_of_cell? W _ G1.out)).trans G1.out) | (go_at_call 99; (with_reducible refine (HK1.out _ HB.out).mono ?_); rintro e w6 ⟨rfl, hb⟩; have n0_ := Aside0.mk (below_step HB.out hb); have n1_ := Aside0.mk (blk_below BK.out hb); clear HB BK; have HB := n0_; have BK := n1_; clear n0_ n1_ hb; have hc1_w6 : w6.cell? ⟨gb, 1, none⟩ = some (.int .i64 x.f1) := (blk_cell BK.out 1).trans rfl; have hc2_w6 : w6.cell? ⟨gb, 2, none⟩ = some (.int .i64 x.f2) := (blk_cell BK.out 2).trans rfl; have hc3_w6 : w6.cell? ⟨gb, 3, none⟩ = some (.int .i64 x.f3) := (blk_cell BK.out 3).trans rfl; have hc5_w6 : w6.cell? ⟨gb, 5, none⟩ = some (.int .i64 x.f5) := (blk_cell BK.out 5).trans rfl; have g0_w6 := (HB.out.cell (World.block_lt_of_cell? W _ G0.out)).trans G0.out; have g1_w6 := (HB.out.cell (World.block_lt_of_cell? W _ G1.out)).trans G1.out) | (go_at_call 99; (with_reducible refine (HK2.out _ HB.out).mono ?_); rintro e w7 ⟨rfl, hb⟩; have n0_ := Aside0.mk (below_step HB.out hb); have n1_ := Aside0.mk (blk_below BK.out hb); clear HB BK; have HB := n0_; have BK := n1_; clear n0_ n1_ hb; have hc1_w7 : w7.cell? ⟨gb, 1, none⟩ = some (.int .i64 x.f1) := (blk_cell BK.out 1).trans rfl; have hc2_w7 : w7.cell? ⟨gb, 2, none⟩ = some (.int .i64 x.f2) := (blk_cell BK.out 2).trans rfl; have hc3_w7 : w7.cell? ⟨gb, 3, none⟩ = some (.int .i64 x.f3) := (blk_cell BK.out 3).trans rfl; have hc5_w7 : w7.cell? ⟨gb, 5, none⟩ = some (.int .i64 x.f5) := (blk_cell BK.out 5).trans rfl; have g0_w7 := (HB.out.cell (World.block_lt_of_cell? W _ G0.out)).trans G0.out; have g1_w7 := (HB.out.cell (World.block_lt_of_cell? W _ G1.out)).trans G1.out) | (go_at_call 100; (with_reducible refine (HK3.out _ HB.out).mono ?_); rintro e w8 ⟨rfl, hb⟩; have n0_ := Aside0.mk (below_step HB.out hb); have n1_ := Aside0.mk (blk_below BK.out hb); clear HB BK; have HB := n0_; have BK := n1_; clear n0_ n1_ hb; have hc1_w8 : w8.cell? ⟨gb, 1, none⟩ = some (.int .i64 x.f1) := (blk_cell BK.out 1).trans rfl; have hc2_w8 : w8.cell? ⟨gb, 2, none⟩ = some (.int .i64 x.f2) := (blk_cell BK.out 2).trans rfl; have hc3_w8 : w8.cell? ⟨gb, 3, none⟩ = some (.int .i64 x.f3) := (blk_cell BK.out 3).trans rfl; have hc5_w8 : w8.cell? ⟨gb, 5, none⟩ = some (.int .i64 x.f5) := (blk_cell BK.out 5).trans rfl; have g0_w8 := (HB.out.cell (World.block_lt_of_cell? W _ G0.out)).trans G0.out; have g1_w8 := (HB.out.cell (World.block_lt_of_cell? W _ G1.out)).trans G1.out))
    go_ret
    exact ⟨by first | rfl | (simp; done) | (simp [*]; done), HB.out⟩
   | false =>
    cases e4 : (k4 != 1) with
    | true =>
     obtain rfl : o = true := by rw [HO.out]; simp [e1, e2, e3, e4]
     clear HO
     go_enter Try.func104, Try.ntmps104
     go_wp2_with (first | ((with_reducible refine gate_dst (N := 2) rfl ?_); refine box_event ?hg (N := 2) ?hd (cs := #[.int .i64 x.f0, .int .i64 x.f1, .int .i64 x.f2, .int .i64 x.f3, .int .i64 x.f4, .int .i64 x.f5, .int .i64 x.f6, .int .i64 x.f7]) (t := 50) ?hr ?_; (case hd => rfl); (case hg => rfl); (case hr => first | (go_simp; done) | (go_simp; rfl)); intro gb hg w5 hbox hb; have n0_ := Aside0.mk (below_step HB.out hb); clear HB; have HB := n0_; have BK := Aside0.mk hbox; clear n0_ hb hbox hg; have hc1_w5 : w5.cell? ⟨gb, 1, none⟩ = some (.int .i64 x.f1) := (blk_cell BK.out 1).trans rfl; have hc2_w5 : w5.cell? ⟨gb, 2, none⟩ = some (.int .i64 x.f2) := (blk_cell BK.out 2).trans rfl; have hc3_w5 : w5.cell? ⟨gb, 3, none⟩ = some (.int .i64 x.f3) := (blk_cell BK.out 3).trans rfl; have hc5_w5 : w5.cell? ⟨gb, 5, none⟩ = some (.int .i64 x.f5) := (blk_cell BK.out 5).trans rfl; have g0_w5 := (HB.out.cell (World.block_lt_of_cell? W _ G0.out)).trans G0.out; have g1_w5 := (HB.out.cell (World.block_lt_of_cell? W _ G1.out)).trans G1.out) | (go_at_call 99; (with_reducible refine (HK1.out _ HB.out).mono ?_); rintro e w6 ⟨rfl, hb⟩; have n0_ := Aside0.mk (below_step HB.out hb); have n1_ := Aside0.mk (blk_below BK.out hb); clear HB BK; have HB := n0_; have BK := n1_; clear n0_ n1_ hb; have hc1_w6 : w6.cell? ⟨gb, 1, none⟩ = some (.int .i64 x.f1) := (blk_cell BK.out 1).trans rfl; have hc2_w6 : w6.cell? ⟨gb, 2, none⟩ = some (.int .i64 x.f2) := (blk_cell BK.out 2).trans rfl; have hc3_w6 : w6.cell? ⟨gb, 3, none⟩ = some (.int .i64 x.f3) := (blk_cell BK.out 3).trans rfl; have hc5_w6 : w6.cell? ⟨gb, 5, none⟩ = some (.int .i64 x.f5) := (blk_cell BK.out 5).trans rfl; have g0_w6 := (HB.out.cell (World.block_lt_of_cell? W _ G0.out)).trans G0.out; have g1_w6 := (HB.out.cell (World.block_lt_of_cell? W _ G1.out)).trans G1.out) | (go_at_call 99; (with_reducible refine (HK2.out _ HB.out).mono ?_); rintro e w7 ⟨rfl, hb⟩; have n0_ := Aside0.mk (below_step HB.out hb); have n1_ := Aside0.mk (blk_below BK.out hb); clear HB BK; have HB := n0_; have BK := n1_; clear n0_ n1_ hb; have hc1_w7 : w7.cell? ⟨gb, 1, none⟩ = some (.int .i64 x.f1) := (blk_cell BK.out 1).trans rfl; have hc2_w7 : w7.cell? ⟨gb, 2, none⟩ = some (.int .i64 x.f2) := (blk_cell BK.out 2).trans rfl; have hc3_w7 : w7.cell? ⟨gb, 3, none⟩ = some (.int .i64 x.f3) := (blk_cell BK.out 3).trans rfl; have hc5_w7 : w7.cell? ⟨gb, 5, none⟩ = some (.int .i64 x.f5) := (blk_cell BK.out 5).trans rfl; have g0_w7 := (HB.out.cell (World.block_lt_of_cell? W _ G0.out)).trans G0.out; have g1_w7 := (HB.out.cell (World.block_lt_of_cell? W _ G1.out)).trans G1.out) | (go_at_call 100; (with_reducible refine (HK3.out _ HB.out).mono ?_); rintro e w8 ⟨rfl, hb⟩; have n0_ := Aside0.mk (below_step HB.out hb); have n1_ := Aside0.mk (blk_below BK.out hb); clear HB BK; have HB := n0_; have BK := n1_; clear n0_ n1_ hb; have hc1_w8 : w8.cell? ⟨gb, 1, none⟩ = some (.int .i64 x.f1) := (blk_cell BK.out 1).trans rfl; have hc2_w8 : w8.cell? ⟨gb, 2, none⟩ = some (.int .i64 x.f2) := (blk_cell BK.out 2).trans rfl; have hc3_w8 : w8.cell? ⟨gb, 3, none⟩ = some (.int .i64 x.f3) := (blk_cell BK.out 3).trans rfl; have hc5_w8 : w8.cell? ⟨gb, 5, none⟩ = some (.int .i64 x.f5) := (blk_cell BK.out 5).trans rfl; have g0_w8 := (HB.out.cell (World.block_lt_of_cell? W _ G0.out)).trans G0.out; have g1_w8 := (HB.out.cell (World.block_lt_of_cell? W _ G1.out)).trans G1.out) | (go_at_call 100; (with_reducible refine (HK4.out _ HB.out).mono ?_); rintro e w9 ⟨rfl, hb⟩; have n0_ := Aside0.mk (below_step HB.out hb); have n1_ := Aside0.mk (blk_below BK.out hb); clear HB BK; have HB := n0_; have BK := n1_; clear n0_ n1_ hb; have hc1_w9 : w9.cell? ⟨gb, 1, none⟩ = some (.int .i64 x.f1) := (blk_cell BK.out 1).trans rfl; have hc2_w9 : w9.cell? ⟨gb, 2, none⟩ = some (.int .i64 x.f2) := (blk_cell BK.out 2).trans rfl; have hc3_w9 : w9.cell? ⟨gb, 3, none⟩ = some (.int .i64 x.f3) := (blk_cell BK.out 3).trans rfl; have hc5_w9 : w9.cell? ⟨gb, 5, none⟩ = some (.int .i64 x.f5) := (blk_cell BK.out 5).trans rfl; have g0_w9 := (HB.out.cell (World.block_lt_of_cell? W _ G0.out)).trans G0.out; have g1_w9 := (HB.out.cell (World.block_lt_of_cell? W _ G1.out)).trans G1.out))
     go_ret
     exact ⟨by first | rfl | (simp; done) | (simp [*]; done), HB.out⟩
    | false =>
     obtain rfl : o = false := by rw [HO.out]; simp [e1, e2, e3, e4]
     clear HO
     go_enter Try.func104, Try.ntmps104
     go_wp2_with (first | ((with_reducible refine gate_dst (N := 2) rfl ?_); refine box_event ?hg (N := 2) ?hd (cs := #[.int .i64 x.f0, .int .i64 x.f1, .int .i64 x.f2, .int .i64 x.f3, .int .i64 x.f4, .int .i64 x.f5, .int .i64 x.f6, .int .i64 x.f7]) (t := 50) ?hr ?_; (case hd => rfl); (case hg => rfl); (case hr => first | (go_simp; done) | (go_simp; rfl)); intro gb hg w5 hbox hb; have n0_ := Aside0.mk (below_step HB.out hb); clear HB; have HB := n0_; have BK := Aside0.mk hbox; clear n0_ hb hbox hg; have hc1_w5 : w5.cell? ⟨gb, 1, none⟩ = some (.int .i64 x.f1) := (blk_cell BK.out 1).trans rfl; have hc2_w5 : w5.cell? ⟨gb, 2, none⟩ = some (.int .i64 x.f2) := (blk_cell BK.out 2).trans rfl; have hc3_w5 : w5.cell? ⟨gb, 3, none⟩ = some (.int .i64 x.f3) := (blk_cell BK.out 3).trans rfl; have hc5_w5 : w5.cell? ⟨gb, 5, none⟩ = some (.int .i64 x.f5) := (blk_cell BK.out 5).trans rfl; have g0_w5 := (HB.out.cell (World.block_lt_of_cell? W _ G0.out)).trans G0.out; have g1_w5 := (HB.out.cell (World.block_lt_of_cell? W _ G1.out)).trans G1.out) | (go_at_call 99; (with_reducible refine (HK1.out _ HB.out).mono ?_); rintro e w6 ⟨rfl, hb⟩; have n0_ := Aside0.mk (below_step HB.out hb); have n1_ := Aside0.mk (blk_below BK.out hb); clear HB BK; have HB := n0_; have BK := n1_; clear n0_ n1_ hb; have hc1_w6 : w6.cell? ⟨gb, 1, none⟩ = some (.int .i64 x.f1) := (blk_cell BK.out 1).trans rfl; have hc2_w6 : w6.cell? ⟨gb, 2, none⟩ = some (.int .i64 x.f2) := (blk_cell BK.out 2).trans rfl; have hc3_w6 : w6.cell? ⟨gb, 3, none⟩ = some (.int .i64 x.f3) := (blk_cell BK.out 3).trans rfl; have hc5_w6 : w6.cell? ⟨gb, 5, none⟩ = some (.int .i64 x.f5) := (blk_cell BK.out 5).trans rfl; have g0_w6 := (HB.out.cell (World.block_lt_of_cell? W _ G0.out)).trans G0.out; have g1_w6 := (HB.out.cell (World.block_lt_of_cell? W _ G1.out)).trans G1.out) | (go_at_call 99; (with_reducible refine (HK2.out _ HB.out).mono ?_); rintro e w7 ⟨rfl, hb⟩; have n0_ := Aside0.mk (below_step HB.out hb); have n1_ := Aside0.mk (blk_below BK.out hb); clear HB BK; have HB := n0_; have BK := n1_; clear n0_ n1_ hb; have hc1_w7 : w7.cell? ⟨gb, 1, none⟩ = some (.int .i64 x.f1) := (blk_cell BK.out 1).trans rfl; have hc2_w7 : w7.cell? ⟨gb, 2, none⟩ = some (.int .i64 x.f2) := (blk_cell BK.out 2).trans rfl; have hc3_w7 : w7.cell? ⟨gb, 3, none⟩ = some (.int .i64 x.f3) := (blk_cell BK.out 3).trans rfl; have hc5_w7 : w7.cell? ⟨gb, 5, none⟩ = some (.int .i64 x.f5) := (blk_cell BK.out 5).trans rfl; have g0_w7 := (HB.out.cell (World.block_lt_of_cell? W _ G0.out)).trans G0.out; have g1_w7 := (HB.out.cell (World.block_lt_of_cell? W _ G1.out)).trans G1.out) | (go_at_call 100; (with_reducible refine (HK3.out _ HB.out).mono ?_); rintro e w8 ⟨rfl, hb⟩; have n0_ := Aside0.mk (below_step HB.out hb); have n1_ := Aside0.mk (blk_below BK.out hb); clear HB BK; have HB := n0_; have BK := n1_; clear n0_ n1_ hb; have hc1_w8 : w8.cell? ⟨gb, 1, none⟩ = some (.int .i64 x.f1) := (blk_cell BK.out 1).trans rfl; have hc2_w8 : w8.cell? ⟨gb, 2, none⟩ = some (.int .i64 x.f2) := (blk_cell BK.out 2).trans rfl; have hc3_w8 : w8.cell? ⟨gb, 3, none⟩ = some (.int .i64 x.f3) := (blk_cell BK.out 3).trans rfl; have hc5_w8 : w8.cell? ⟨gb, 5, none⟩ = some (.int .i64 x.f5) := (blk_cell BK.out 5).trans rfl; have g0_w8 := (HB.out.cell (World.block_lt_of_cell? W _ G0.out)).trans G0.out; have g1_w8 := (HB.out.cell (World.block_lt_of_cell? W _ G1.out)).trans G1.out) | (go_at_call 100; (with_reducible refine (HK4.out _ HB.out).mono ?_); rintro e w9 ⟨rfl, hb⟩; have n0_ := Aside0.mk (below_step HB.out hb); have n1_ := Aside0.mk (blk_below BK.out hb); clear HB BK; have HB := n0_; have BK := n1_; clear n0_ n1_ hb; have hc1_w9 : w9.cell? ⟨gb, 1, none⟩ = some (.int .i64 x.f1) := (blk_cell BK.out 1).trans rfl; have hc2_w9 : w9.cell? ⟨gb, 2, none⟩ = some (.int .i64 x.f2) := (blk_cell BK.out 2).trans rfl; have hc3_w9 : w9.cell? ⟨gb, 3, none⟩ = some (.int .i64 x.f3) := (blk_cell BK.out 3).trans rfl; have hc5_w9 : w9.cell? ⟨gb, 5, none⟩ = some (.int .i64 x.f5) := (blk_cell BK.out 5).trans rfl; have g0_w9 := (HB.out.cell (World.block_lt_of_cell? W _ G0.out)).trans G0.out; have g1_w9 := (HB.out.cell (World.block_lt_of_cell? W _ G1.out)).trans G1.out))
     go_ret
     exact ⟨by first | rfl | (simp; done) | (simp [*]; done), HB.out⟩
theorem impl_tradesRight.pred {B : Nat} {A0 : Option Addr} {c0 : Nat} {l0 : List (S88)} {A1 : Option Addr} {c1 : Nat} {l1 : List (S90)} {w : World} (h0 : w.cell? ⟨B, 0, none⟩ = some (.slice A0 l0.length c0)) (h1 : w.cell? ⟨B, 1, none⟩ = some (.slice A1 l1.length c1)) (hC0 : Kd.C k88 w A0 l0.length l0) (hC1 : Kd.C k90 w A1 l1.length l1) (hc0 : l0.length ≤ c0) (hc1 : l1.length ≤ c1) (hl0 : l0.length < 1048577) (hl1 : l1.length < 1048577) :
 X0.FnB Try.prog 104 #[.pointer (some ⟨B, 0, none⟩)] w (fun x : S50 => .agg #[.int .i64 x.f0, .int .i64 x.f1, .int .i64 x.f2, .int .i64 x.f3, .int .i64 x.f4, .int .i64 x.f5, .int .i64 x.f6, .int .i64 x.f7]) (impl_tradesRight.bad l0 l1) :=
 ⟨_, Try.func104, by kernel_rfl, rfl, fun x W hW => impl_tradesRight.clo B A0 c0 l0 A1 c1 l1 x W ((hW.cell (World.block_lt_of_cell? w _ h0)).trans h0) ((hW.cell (World.block_lt_of_cell? w _ h1)).trans h1) (Kd.C_below hC0 hW) (Kd.C_below hC1 hW) hc0 hc1 hl0 hl1⟩
theorem impl_tradesRight.calls (A0_0 : Option Addr) (c0_0 : Nat) (l0_0 : List (S88)) (A0_1 : Option Addr) (c0_1 : Nat) (l0_1 : List (S90)) (A0_2 : Option Addr) (c0_2 : Nat) (l0_2 : List (S93)) (A0_3 : Option Addr) (c0_3 : Nat) (l0_3 : List (S96)) (A0_4 : Option Addr) (c0_4 : Nat) (l0_4 : List (S50)) (a0_5 : Int) (r : Bool) (w : World) (hr0_0 : Kd.C k88 w A0_0 l0_0.length l0_0) (hc0_0 : l0_0.length ≤ c0_0) (hr0_1 : Kd.C k90 w A0_1 l0_1.length l0_1) (hc0_1 : l0_1.length ≤ c0_1) (hr0_2 : Kd.C k93 w A0_2 l0_2.length l0_2) (hc0_2 : l0_2.length ≤ c0_2) (hr0_3 : Kd.C k96 w A0_3 l0_3.length l0_3) (hc0_3 : l0_3.length ≤ c0_3) (hr0_4 : Kd.C k50 w A0_4 l0_4.length l0_4) (hc0_4 : l0_4.length ≤ c0_4) (h : impl_tradesRight.f l0_0 l0_1 l0_2 l0_3 l0_4 a0_5 = some r) :
 Calls Try.prog 72 #[.agg #[.slice A0_0 l0_0.length c0_0, .slice A0_1 l0_1.length c0_1, .slice A0_2 l0_2.length c0_2, .slice A0_3 l0_3.length c0_3, .slice A0_4 l0_4.length c0_4, .int .i64 a0_5]] w fun e w' => e = .returned (.bool r) ∧ Below w.heap.size w w' := by
 unfold impl_tradesRight.f at h
 by_cases hh : l0_0.length < 1048577 ∧ l0_1.length < 1048577
 ·
  rw [if_pos hh] at h
  obtain rfl := Option.some.inj h
  have HB := Aside0.mk (Below.refl w.heap.size w)
  have HR0 := Aside0.mk hr0_0
  have HC0 := Aside0.mk hc0_0
  have HR1 := Aside0.mk hr0_1
  have HC1 := Aside0.mk hc0_1
  have HR4 := Aside0.mk hr0_4
  have HC4 := Aside0.mk hc0_4
  have HL := Aside0.mk hh
  clear hr0_0 hc0_0 hr0_1 hc0_1 hr0_2 hc0_2 hr0_3 hc0_3 hr0_4 hc0_4 hh h
  go_enter Try.func72, Try.ntmps72
  go_wp2_with (first | ((with_reducible refine gate_dst (N := 1) rfl ?_); refine box_event ?hg (N := 1) ?hd (cs := #[.slice A0_0 l0_0.length c0_0, .slice A0_1 l0_1.length c0_1, .slice A0_2 l0_2.length c0_2, .slice A0_3 l0_3.length c0_3, .slice A0_4 l0_4.length c0_4, .int .i64 a0_5]) (t := 34) ?hr ?_; (case hd => rfl); (case hg => rfl); (case hr => first | (go_simp; done) | (go_simp; rfl)); intro gb hg w5 hbox hb; have n0_ := Aside0.mk (below_step HB.out hb); clear HB; have HB := n0_; have BK := Aside0.mk hbox; clear n0_ hb hbox hg; have hc4_w5 : w5.cell? ⟨gb, 4, none⟩ = some (.slice A0_4 l0_4.length c0_4) := (blk_cell BK.out 4).trans rfl) | ((with_reducible refine gate_callee (f := 103) rfl ?_); (try (refine gate_guard (by rfl) ?_; dsimp only)); refine goesL_ (some 6) rfl rfl Try.func103 (by kernel_rfl) rfl #[.slice A0_4 l0_4.length c0_4, .func (.func 104) #[] #[.pointer (some ⟨gb, 0, none⟩)]] rfl (by (try simp only [List.map_toArray, List.map_cons, List.map_nil]); first | done | rfl) ?_; (with_reducible refine (ContainsFunc_st50.calls _ _ l0_4 _ #[.pointer (some ⟨gb, 0, none⟩)] (impl_tradesRight.bad l0_0 l0_1) _ (Kd.C_below HR4.out HB.out) HC4.out (impl_tradesRight.pred ((blk_cell BK.out 0).trans rfl) ((blk_cell BK.out 1).trans rfl) (Kd.C_below HR0.out HB.out) (Kd.C_below HR1.out HB.out) HC0.out HC1.out HL.out.1 HL.out.2)).mono ?_); rintro e w6 ⟨rfl, hb⟩; refine ⟨_, rfl, ?_⟩; have n0_ := Aside0.mk (below_step HB.out hb); clear HB; have HB := n0_; clear n0_ hb))
  go_ret
  exact ⟨by first | rfl | (simp; done) | (simp [*]; done), HB.out⟩
 ·
  rw [if_neg hh] at h
  cases h
def impl_BooksOk.j0 : Nat → Bool → List (S88) → List (S90) → List (S93) → List (S96) → List (S50) → Int → Option (Bool)
 | 0, _, _, _, _, _, _, _ => none
 | k + 1, x36, x442000, x442001, x442002, x442003, x442004, x442005 => if x36 = true then (some false) else ((impl_balsRight.f k x442000 x442001 x442002 x442003 x442004 x442005).bind fun t448 => (if t448 = true then ((impl_lotsRight.f k x442000 x442001 x442002 x442003 x442004 x442005).bind fun t449 => (if t449 = true then ((impl_tradesRight.f x442000 x442001 x442002 x442003 x442004 x442005).bind fun t450 => (some t450)) else (some false))) else (some false)))
def impl_BooksOk.f (k : Nat) (l0_0 : List (S88)) (l0_1 : List (S90)) (l0_2 : List (S93)) (l0_3 : List (S96)) (l0_4 : List (S50)) (a0_5 : Int) : Option (Bool) := (impl_AccountsOk.f k l0_0).bind fun t442 => (if t442 = true then ((impl_InstrsOk.f k l0_1).bind fun t443 => (if t443 = true then ((impl_BalsOk.f k l0_2).bind fun t444 => (if t444 = true then ((impl_LotsOk.f l0_3).bind fun t445 => (if t445 = true then ((impl_TradesOk.f k l0_4).bind fun t446 => (if t446 = true then ((impl_in.f a0_5 0 1000000000).bind fun t447 => (impl_BooksOk.j0 k (!t447) l0_0 l0_1 l0_2 l0_3 l0_4 a0_5)) else (impl_BooksOk.j0 k true l0_0 l0_1 l0_2 l0_3 l0_4 a0_5))) else (impl_BooksOk.j0 k true l0_0 l0_1 l0_2 l0_3 l0_4 a0_5))) else (impl_BooksOk.j0 k true l0_0 l0_1 l0_2 l0_3 l0_4 a0_5))) else (impl_BooksOk.j0 k true l0_0 l0_1 l0_2 l0_3 l0_4 a0_5))) else (impl_BooksOk.j0 k true l0_0 l0_1 l0_2 l0_3 l0_4 a0_5))
end Go.Proofs.Ytmfgajbkcnlkcaa.P
namespace Go.Proofs.Ytmfgajbkcnlkcaa.P
open Go.RowKit Go.Proofs.YtmfgajbkcnlkcaaW.PrintWords Go.Proofs.YtmfgajbkcnlkcaaW.PrintLast Go.Proofs.YtmfgajbkcnlkcaaW.PrintMore
attribute [local go_sem] max2_int min2_int max_two min_two max_three min_three max_four min_four   -- for this text's walks alone
set_option linter.unusedVariables false
set_option linter.unusedSimpArgs false
def laws_markAccountS.l0 : Nat → List (S88) → Int → Int → Option (Int × (List (S88)))
 | 0, _, _, _ => none
 | k + 1, x0, x1, x5 => if x5 < (x0.length : Int) then (if 0 ≤ x5 then ((some (x0.set (x5 : Int).toNat (⟨x1, (rd_T88 x0 x5).f1⟩ : S88) : List (S88))).bind fun y590 => (laws_markAccountS.l0 k (y590.set (x5 : Int).toNat (⟨(rd_T88 y590 x5).f0, wrap64 (x1 + 1)⟩ : S88)) (wrap64 ((wrap64 (x1 + 1)) + 1)) (wrap64 (x5 + 1)))) else (none)) else (some (x1, x0))
def laws_markAccountS.f (k : Nat) (l0 : List (S88)) (a1 : Int) : Option (Int × (List (S88))) := laws_markAccountS.l0 k l0 a1 0
def laws_markInstrS.l0 : Nat → List (S90) → Int → Int → Option (Int × (List (S90)))
 | 0, _, _, _ => none
 | k + 1, x0, x1, x5 => if x5 < (x0.length : Int) then (if 0 ≤ x5 then ((some (x0.set (x5 : Int).toNat (⟨x1, (rd_T90 x0 x5).f1⟩ : S90) : List (S90))).bind fun y592 => (laws_markInstrS.l0 k (y592.set (x5 : Int).toNat (⟨(rd_T90 y592 x5).f0, wrap64 (x1 + 1)⟩ : S90)) (wrap64 ((wrap64 (x1 + 1)) + 1)) (wrap64 (x5 + 1)))) else (none)) else (some (x1, x0))
def laws_markInstrS.f (k : Nat) (l0 : List (S90)) (a1 : Int) : Option (Int × (List (S90))) := laws_markInstrS.l0 k l0 a1 0
end Go.Proofs.Ytmfgajbkcnlkcaa.P
namespace Go.Proofs.Ytmfgajbkcnlkcaa.P
open Go.RowKit Go.Proofs.YtmfgajbkcnlkcaaW.PrintWords Go.Proofs.YtmfgajbkcnlkcaaW.PrintLast Go.Proofs.YtmfgajbkcnlkcaaW.PrintMore
attribute [local go_sem] max2_int min2_int max_two min_two max_three min_three max_four min_four   -- for this text's walks alone
set_option linter.unusedVariables false
set_option linter.unusedSimpArgs false
def laws_markBalS.l0 : Nat → List (S93) → Int → Int → Option (Int × (List (S93)))
 | 0, _, _, _ => none
 | k + 1, x0, x1, x5 => if x5 < (x0.length : Int) then (if 0 ≤ x5 then ((some (x0.set (x5 : Int).toNat (⟨x1, (rd_T93 x0 x5).f1, (rd_T93 x0 x5).f2⟩ : S93) : List (S93))).bind fun y594 => ((some (y594.set (x5 : Int).toNat (⟨(rd_T93 y594 x5).f0, wrap64 (x1 + 1), (rd_T93 y594 x5).f2⟩ : S93) : List (S93))).bind fun y595 => (laws_markBalS.l0 k (y595.set (x5 : Int).toNat (⟨(rd_T93 y595 x5).f0, (rd_T93 y595 x5).f1, wrap64 ((wrap64 (x1 + 1)) + 1)⟩ : S93)) (wrap64 ((wrap64 ((wrap64 (x1 + 1)) + 1)) + 1)) (wrap64 (x5 + 1))))) else (none)) else (some (x1, x0))
def laws_markBalS.f (k : Nat) (l0 : List (S93)) (a1 : Int) : Option (Int × (List (S93))) := laws_markBalS.l0 k l0 a1 0
def laws_markLotS.l0 : Nat → List (S96) → Int → Int → Option (Int × (List (S96)))
 | 0, _, _, _ => none
 | k + 1, x0, x1, x5 => if x5 < (x0.length : Int) then (if 0 ≤ x5 then ((some (x0.set (x5 : Int).toNat (⟨x1, (rd_T96 x0 x5).f1, (rd_T96 x0 x5).f2, (rd_T96 x0 x5).f3, (rd_T96 x0 x5).f4⟩ : S96) : List (S96))).bind fun y597 => ((some (y597.set (x5 : Int).toNat (⟨(rd_T96 y597 x5).f0, wrap64 (x1 + 1), (rd_T96 y597 x5).f2, (rd_T96 y597 x5).f3, (rd_T96 y597 x5).f4⟩ : S96) : List (S96))).bind fun y598 => ((some (y598.set (x5 : Int).toNat (⟨(rd_T96 y598 x5).f0, (rd_T96 y598 x5).f1, wrap64 ((wrap64 (x1 + 1)) + 1), (rd_T96 y598 x5).f3, (rd_T96 y598 x5).f4⟩ : S96) : List (S96))).bind fun y599 => ((some (y599.set (x5 : Int).toNat (⟨(rd_T96 y599 x5).f0, (rd_T96 y599 x5).f1, (rd_T96 y599 x5).f2, wrap64 ((wrap64 ((wrap64 (x1 + 1)) + 1)) + 1), (rd_T96 y599 x5).f4⟩ : S96) : List (S96))).bind fun y600 => (laws_markLotS.l0 k (y600.set (x5 : Int).toNat (⟨(rd_T96 y600 x5).f0, (rd_T96 y600 x5).f1, (rd_T96 y600 x5).f2, (rd_T96 y600 x5).f3, wrap64 ((wrap64 ((wrap64 ((wrap64 (x1 + 1)) + 1)) + 1)) + 1)⟩ : S96)) (wrap64 ((wrap64 ((wrap64 ((wrap64 ((wrap64 (x1 + 1)) + 1)) + 1)) + 1)) + 1)) (wrap64 (x5 + 1))))))) else (none)) else (some (x1, x0))
def laws_markLotS.f (k : Nat) (l0 : List (S96)) (a1 : Int) : Option (Int × (List (S96))) := laws_markLotS.l0 k l0 a1 0
def laws_markTradeS.l0 : Nat → List (S50) → Int → Int → Option (Int × (List (S50)))
 | 0, _, _, _ => none
 | k + 1, x0, x1, x5 => if x5 < (x0.length : Int) then (if 0 ≤ x5 then ((some (x0.set (x5 : Int).toNat (⟨x1, (rd_T50 x0 x5).f1, (rd_T50 x0 x5).f2, (rd_T50 x0 x5).f3, (rd_T50 x0 x5).f4, (rd_T50 x0 x5).f5, (rd_T50 x0 x5).f6, (rd_T50 x0 x5).f7⟩ : S50) : List (S50))).bind fun y602 => ((some (y602.set (x5 : Int).toNat (⟨(rd_T50 y602 x5).f0, wrap64 (x1 + 1), (rd_T50 y602 x5).f2, (rd_T50 y602 x5).f3, (rd_T50 y602 x5).f4, (rd_T50 y602 x5).f5, (rd_T50 y602 x5).f6, (rd_T50 y602 x5).f7⟩ : S50) : List (S50))).bind fun y603 => ((some (y603.set (x5 : Int).toNat (⟨(rd_T50 y603 x5).f0, (rd_T50 y603 x5).f1, wrap64 ((wrap64 (x1 + 1)) + 1), (rd_T50 y603 x5).f3, (rd_T50 y603 x5).f4, (rd_T50 y603 x5).f5, (rd_T50 y603 x5).f6, (rd_T50 y603 x5).f7⟩ : S50) : List (S50))).bind fun y604 => ((some (y604.set (x5 : Int).toNat (⟨(rd_T50 y604 x5).f0, (rd_T50 y604 x5).f1, (rd_T50 y604 x5).f2, wrap64 ((wrap64 ((wrap64 (x1 + 1)) + 1)) + 1), (rd_T50 y604 x5).f4, (rd_T50 y604 x5).f5, (rd_T50 y604 x5).f6, (rd_T50 y604 x5).f7⟩ : S50) : List (S50))).bind fun y605 => ((some (y605.set (x5 : Int).toNat (⟨(rd_T50 y605 x5).f0, (rd_T50 y605 x5).f1, (rd_T50 y605 x5).f2, (rd_T50 y605 x5).f3, wrap64 ((wrap64 ((wrap64 ((wrap64 (x1 + 1)) + 1)) + 1)) + 1), (rd_T50 y605 x5).f5, (rd_T50 y605 x5).f6, (rd_T50 y605 x5).f7⟩ : S50) : List (S50))).bind fun y606 => ((some (y606.set (x5 : Int).toNat (⟨(rd_T50 y606 x5).f0, (rd_T50 y606 x5).f1, (rd_T50 y606 x5).f2, (rd_T50 y606 x5).f3, (rd_T50 y606 x5).f4, wrap64 ((wrap64 ((wrap64 ((wrap64 ((wrap64 (x1 + 1)) + 1)) + 1)) + 1)) + 1), (rd_T50 y606 x5).f6, (rd_T50 y606 x5).f7⟩ : S50) : List (S50))).bind fun y607 => ((some (y607.set (x5 : Int).toNat (⟨(rd_T50 y607 x5).f0, (rd_T50 y607 x5).f1, (rd_T50 y607 x5).f2, (rd_T50 y607 x5).f3, (rd_T50 y607 x5).f4, (rd_T50 y607 x5).f5, wrap64 ((wrap64 ((wrap64 ((wrap64 ((wrap64 ((wrap64 (x1 + 1)) + 1)) + 1)) + 1)) + 1)) + 1), (rd_T50 y607 x5).f7⟩ : S50) : List (S50))).bind fun y608 => (laws_markTradeS.l0 k (y608.set (x5 : Int).toNat (⟨(rd_T50 y608 x5).f0, (rd_T50 y608 x5).f1, (rd_T50 y608 x5).f2, (rd_T50 y608 x5).f3, (rd_T50 y608 x5).f4, (rd_T50 y608 x5).f5, (rd_T50 y608 x5).f6, wrap64 ((wrap64 ((wrap64 ((wrap64 ((wrap64 ((wrap64 ((wrap64 (x1 + 1)) + 1)) + 1)) + 1)) + 1)) + 1)) + 1)⟩ : S50)) (wrap64 ((wrap64 ((wrap64 ((wrap64 ((wrap64 ((wrap64 ((wrap64 ((wrap64 (x1 + 1)) + 1)) + 1)) + 1)) + 1)) + 1)) + 1)) + 1)) (wrap64 (x5 + 1)))))))))) else (none)) else (some (x1, x0))
def laws_markTradeS.f (k : Nat) (l0 : List (S50)) (a1 : Int) : Option (Int × (List (S50))) := laws_markTradeS.l0 k l0 a1 0
def laws_markBooks.f (k : Nat) (l0_0 : List (S88)) (l0_1 : List (S90)) (l0_2 : List (S93)) (l0_3 : List (S96)) (l0_4 : List (S50)) (a0_5 : Int) (a1 : Int) : Option (Int × (List (S88)) × (List (S90)) × (List (S93)) × (List (S96)) × (List (S50))) := (laws_markAccountS.f k l0_0 a1).bind fun bt611 => ((laws_markInstrS.f k l0_1 bt611.1).bind fun bt613 => ((laws_markBalS.f k l0_2 bt613.1).bind fun bt615 => ((laws_markLotS.f k l0_3 bt615.1).bind fun bt617 => ((laws_markTradeS.f k l0_4 bt617.1).bind fun bt619 => (some (bt619.1, bt611.2, bt613.2, bt615.2, bt617.2, bt619.2))))))
mutual
def spec_TradesOpen.l0 : Nat → Int → Int → List Int → Int → List (S88) → List (S90) → List (S93) → List (S96) → List (S50) → Int → Option (List Int)
 | 0, _, _, _, _, _, _, _, _, _, _ => none
 | k + 1, x1, x2, x7, x8, x622000, x622001, x622002, x622003, x622004, x622005 => if x8 < (x622004.length : Int) then ((spec_BooksOk.f k x622000 x622001 x622002 x622003 x622004 x622005).bind fun t625 => (spec_TradesOpen.j1 k x1 x2 x7 x8 t625 x622000 x622001 x622002 x622003 x622004 x622005)) else (spec_TradesOpen.j1 k x1 x2 x7 x8 false x622000 x622001 x622002 x622003 x622004 x622005)
def spec_TradesOpen.j1 : Nat → Int → Int → List Int → Int → Bool → List (S88) → List (S90) → List (S93) → List (S96) → List (S50) → Int → Option (List Int)
 | 0, _, _, _, _, _, _, _, _, _, _, _ => none
 | k + 1, x1, x2, x7, x8, x19, x622000, x622001, x622002, x622003, x622004, x622005 => if x19 = true then (if 0 ≤ x8 then (if x8 < (x622004.length : Int) then (if ((rd_T50 x622004 x8).f7) = 1 then ((spec_l1In.f ((rd_T50 x622004 x8).f0) x1 x2).bind fun t628 => (if t628 = true then (if x7.length < 17592186044416 then (spec_TradesOpen.l0 k x1 x2 (x7 ++ [(rd_T50 x622004 x8).f0]) (wrap64 (x8 + 1)) x622000 x622001 x622002 x622003 x622004 x622005) else (none)) else (spec_TradesOpen.l0 k x1 x2 x7 (wrap64 (x8 + 1)) x622000 x622001 x622002 x622003 x622004 x622005))) else (spec_TradesOpen.l0 k x1 x2 x7 (wrap64 (x8 + 1)) x622000 x622001 x622002 x622003 x622004 x622005)) else (none)) else (none)) else (some x7)
end
def spec_TradesOpen.f (k : Nat) (l0_0 : List (S88)) (l0_1 : List (S90)) (l0_2 : List (S93)) (l0_3 : List (S96)) (l0_4 : List (S50)) (a0_5 : Int) (a1 : Int) (a2 : Int) : Option (List Int) := spec_TradesOpen.l0 k a1 a2 (([] : List Int)) 0 l0_0 l0_1 l0_2 l0_3 l0_4 a0_5
end Go.Proofs.Ytmfgajbkcnlkcaa.P
namespace Go.Proofs.Ytmfgajbkcnlkcaa.P
open Go.RowKit Go.Proofs.YtmfgajbkcnlkcaaW.PrintWords Go.Proofs.YtmfgajbkcnlkcaaW.PrintLast Go.Proofs.YtmfgajbkcnlkcaaW.PrintMore
attribute [local go_sem] max2_int min2_int max_two min_two max_three min_three max_four min_four   -- for this text's walks alone
set_option linter.unusedVariables false
set_option linter.unusedSimpArgs false
def impl_TradesOpen.l0 : Nat → Int → Int → List Int → List (S50) → Int → Int → Option (List Int)
 | 0, _, _, _, _, _, _ => none
 | k + 1, x1, x2, x7, x15, x16, x17 => if x17 < x16 then (if 0 ≤ x17 then (if x17 < (x15.length : Int) then (if ((rd_T50 x15 x17).f7) = 1 then ((impl_in.f ((rd_T50 x15 x17).f0) x1 x2).bind fun t639 => (if t639 = true then (if x7.length < 17592186044416 then (impl_TradesOpen.l0 k x1 x2 (x7 ++ [(rd_T50 x15 x17).f0]) x15 x16 (wrap64 (x17 + 1))) else (none)) else (impl_TradesOpen.l0 k x1 x2 x7 x15 x16 (wrap64 (x17 + 1))))) else (impl_TradesOpen.l0 k x1 x2 x7 x15 x16 (wrap64 (x17 + 1)))) else (none)) else (none)) else (some x7)
def impl_TradesOpen.f (k : Nat) (l0_0 : List (S88)) (l0_1 : List (S90)) (l0_2 : List (S93)) (l0_3 : List (S96)) (l0_4 : List (S50)) (a0_5 : Int) (a1 : Int) (a2 : Int) : Option (List Int) := (impl_BooksOk.f k l0_0 l0_1 l0_2 l0_3 l0_4 a0_5).bind fun t633 => (if t633 = true then (impl_TradesOpen.l0 k a1 a2 (([] : List Int)) l0_4 (l0_4.length : Int) 0) else (some ([] : List Int)))
def laws_eqIntS.l0 : Nat → List Int → List Int → Int → Option (Bool)
 | 0, _, _, _ => none
 | k + 1, x0, x1, x5 => if x5 < (x0.length : Int) then (if 0 ≤ x5 then (if x5 < (x1.length : Int) then (if (rd x0 x5) = (rd x1 x5) then (laws_eqIntS.l0 k x0 x1 (wrap64 (x5 + 1))) else (some false)) else (none)) else (none)) else (some true)
def laws_eqIntS.f (k : Nat) (l0 : List Int) (l1 : List Int) : Option (Bool) := if (l0.length : Int) = (l1.length : Int) then (laws_eqIntS.l0 k l0 l1 0) else (some false)
def laws_markIntS.l0 : Nat → List Int → Int → Int → Option (Int × List Int)
 | 0, _, _, _ => none
 | k + 1, x0, x1, x5 => if x5 < (x0.length : Int) then (if 0 ≤ x5 then (laws_markIntS.l0 k (x0.set (x5 : Int).toNat x1) (wrap64 (x1 + 1)) (wrap64 (x5 + 1))) else (none)) else (some (x1, x0))
def laws_markIntS.f (k : Nat) (l0 : List Int) (a1 : Int) : Option (Int × List Int) := laws_markIntS.l0 k l0 a1 0
def laws_heldIntS.l0 : Nat → List Int → Int → Int → Option (Int)
 | 0, _, _, _ => none
 | k + 1, x0, x1, x5 => if x5 < (x0.length : Int) then (if 0 ≤ x5 then (if (rd x0 x5) = x1 then (laws_heldIntS.l0 k x0 (wrap64 (x1 + 1)) (wrap64 (x5 + 1))) else (some (-1))) else (none)) else (some x1)
def laws_heldIntS.f (k : Nat) (l0 : List Int) (a1 : Int) : Option (Int) := laws_heldIntS.l0 k l0 a1 0
end Go.Proofs.Ytmfgajbkcnlkcaa.P
namespace Go.Proofs.Ytmfgajbkcnlkcaa.P
open Go.RowKit Go.Proofs.YtmfgajbkcnlkcaaW.PrintWords Go.Proofs.YtmfgajbkcnlkcaaW.PrintLast Go.Proofs.YtmfgajbkcnlkcaaW.PrintMore
attribute [local go_sem] max2_int min2_int max_two min_two max_three min_three max_four min_four   -- for this text's walks alone
set_option linter.unusedVariables false
set_option linter.unusedSimpArgs false
def laws_FnExactTradesOpen.j0 : Nat → Int → Int → List Int → List Int → Bool → List (S106) → List (S108) → List (S110) → List (S112) → List (S64) → Int → Option (Bool)
 | 0, _, _, _, _, _, _, _, _, _, _, _ => none
 | k + 1, x1, x2, x8, x10, x50, x648000, x648001, x648002, x648003, x648004, x648005 => if x50 = true then (none) else ((laws_markIntS.f k x10 1).bind fun bt713 => ((laws_heldIntS.f k bt713.2 1).bind fun t715 => (if t715 < 0 then (none) else (if t715 = bt713.1 then ((laws_toBooks.f k x648000 x648001 x648002 x648003 x648004 x648005).bind fun bt716 => ((impl_TradesOpen.f k bt716.1 bt716.2.1 bt716.2.2.1 bt716.2.2.2.1 bt716.2.2.2.2.1 bt716.2.2.2.2.2 x1 x2).bind fun t732 => ((laws_eqIntS.f k t732 x8).bind fun t735 => (if t735 = true then ((laws_heldIntS.f k bt713.2 1).bind fun t736 => (if t736 < 0 then (none) else (if t736 = bt713.1 then (some true) else (none)))) else (none))))) else (none)))))
def laws_FnExactTradesOpen.f (k : Nat) (l0_0 : List (S106)) (l0_1 : List (S108)) (l0_2 : List (S110)) (l0_3 : List (S112)) (l0_4 : List (S64)) (a0_5 : Int) (a1 : Int) (a2 : Int) : Option (Bool) := (laws_szBooks.f l0_0 l0_1 l0_2 l0_3 l0_4 a0_5 1048576).bind fun t648 => (if t648 < 0 then (some true) else ((laws_toBooks.f k l0_0 l0_1 l0_2 l0_3 l0_4 a0_5).bind fun bt649 => ((spec_TradesOpen.f k bt649.1 bt649.2.1 bt649.2.2.1 bt649.2.2.2.1 bt649.2.2.2.2.1 bt649.2.2.2.2.2 a1 a2).bind fun t665 => ((laws_toBooks.f k l0_0 l0_1 l0_2 l0_3 l0_4 a0_5).bind fun bt668 => ((impl_TradesOpen.f k bt668.1 bt668.2.1 bt668.2.2.1 bt668.2.2.2.1 bt668.2.2.2.2.1 bt668.2.2.2.2.2 a1 a2).bind fun t685 => ((laws_eqIntS.f k t685 t665).bind fun t688 => (if t688 = true then ((laws_toBooks.f k l0_0 l0_1 l0_2 l0_3 l0_4 a0_5).bind fun bt689 => ((laws_eqBooks.f k bt668.1 bt668.2.1 bt668.2.2.1 bt668.2.2.2.1 bt668.2.2.2.2.1 bt668.2.2.2.2.2 bt689.1 bt689.2.1 bt689.2.2.1 bt689.2.2.2.1 bt689.2.2.2.2.1 bt689.2.2.2.2.2).bind fun t705 => (if t705 = true then ((laws_markBooks.f k bt668.1 bt668.2.1 bt668.2.2.1 bt668.2.2.2.1 bt668.2.2.2.2.1 bt668.2.2.2.2.2 1).bind fun bt706 => (if bt706.1 < 0 then (none) else ((laws_eqIntS.f k t685 t665).bind fun t712 => (laws_FnExactTradesOpen.j0 k a1 a2 t665 t685 (!t712) l0_0 l0_1 l0_2 l0_3 l0_4 a0_5)))) else (none)))) else (none))))))))
end Go.Proofs.Ytmfgajbkcnlkcaa.P
namespace Go.Proofs.Ytmfgajbkcnlkcaa.AI
set_option linter.all false
open Go
inductive Sc where
  | i (k : IntKind) (n : Int)
  | b (x : Bool)
def Sc.v : Sc → Value
  | .i k n => .int k n
  | .b x => .bool x
class RowT (R : Type) where
  ty : R → TypeId
  cel : R → List (List Sc)
  len : R → Nat
  elt : R → Nat → List Sc
  nil : TypeId → Option R
  zer : TypeId → Nat → Option R
  snoc : R → List Sc → Option R
  app : R → R → Option R
  set : R → Nat → List Sc → Option R
  setK : R → Nat → List Sc → (Z : Type) → (R → Option Z) → Option Z
inductive C where
  | sc (v : Sc)
  | kb (b : Bool)
  | bo (p : Prop) (i : Decidable p)
  | nb (p : Prop) (i : Decidable p)
  | rw (id : Nat)
inductive W where
  | c (x : C)
  | ag (cs : List C)
inductive V where
  | w (x : W)
  | tu (ws : List W)
  | pt (id off : Nat)
  | ep (id sz i off : Nat)
  | nl
  | un
  | no
inductive Blk (R : Type) where
  | rows (k : Nat) (r : R)
  | box (t : TypeId) (cs : List C)
  | dead
structure St (R : Type) where
  nt : Nat
  na : Nat
  nx : Nat
  tm : List (Nat × V)
  hp : List (Nat × Blk R)
structure Out (R : Type) where
  res : List W
  hp : List (Blk R)
structure Tst where
  p : Prop
  i : Decidable p
def get {α : Type} : List (Nat × α) → Nat → Option α
  | [], _ => none
  | (k, v) :: r, n => cond (Nat.beq k n) (some v) (get r n)
def nth {α : Type} : List α → Nat → Option α
  | [], _ => none
  | x :: _, 0 => some x
  | _ :: r, n + 1 => nth r n
def setAt {α : Type} : List α → Nat → α → List α
  | [], _, _ => []
  | _ :: r, 0, y => y :: r
  | x :: r, n + 1, y => x :: setAt r n y
section
variable {R : Type} [RowT R]
def St.v (st : St R) (t : Nat) : V := (get st.tm t).getD .no
def ev (st : St R) : Operand → V
  | .tmp t => st.v t
  | .const (.bool b) => .w (.c (.kb b))
  | .const (.int k n) => .w (.c (.sc (.i k n)))
  | .const (.slice none 0 0) => .nl
  | _ => .no
def St.put (st : St R) (d : Option Nat) (v : V) : Option (St R) :=
  match d with
  | none => some st
  | some d => cond (Nat.blt d st.nt) (some { st with tm := (d, v) :: st.tm }) none
def St.know (st : St R) (t : Nat) (b : Bool) : St R := { st with tm := (t, .w (.c (.kb b))) :: st.tm }
def wr (k : IntKind) (n : Int) : Int := match k with
  | .i64 => RowKit.wrap64 n
  | k => k.wrap n
theorem wr_eq (k : IntKind) (n : Int) : wr k n = k.wrap n := by
  cases k <;> first | rfl | (simp only [wr]; rw [IntKind.wrap_i64]; unfold RowKit.wrap64; rfl)
def C.val : C → Option Sc
  | .sc v => some v
  | .kb b => some (.b b)
  | .bo p i => some (.b (@decide p i))
  | .nb p i => some (.b (!@decide p i))
  | .rw _ => none
def binI (op : BinOp) (k : IntKind) (a b : Int) : Option (List Tst × C) :=
  match op with
  | .add => some ([], .sc (.i k (wr k (a + b))))
  | .sub => some ([], .sc (.i k (wr k (a - b))))
  | .mul => some ([], .sc (.i k (wr k (a * b))))
  | .quo => some ([⟨b ≠ 0, inferInstance⟩], .sc (.i k (wr k (a.tdiv b))))
  | .rem => some ([⟨b ≠ 0, inferInstance⟩], .sc (.i k (a.tmod b)))
  | .eql => some ([], .bo (a = b) inferInstance)
  | .neq => some ([], .nb (a = b) inferInstance)
  | .lss => some ([], .bo (a < b) inferInstance)
  | .leq => some ([], .bo (a ≤ b) inferInstance)
  | .gtr => some ([], .bo (a > b) inferInstance)
  | .geq => some ([], .bo (a ≥ b) inferInstance)
  | _ => none
def isBool (P : Program) (t : TypeId) : Bool := match P.underlying t with
  | some .bool => true
  | _ => false
def binV (bl : Bool) (op : BinOp) : V → V → Option (List Tst × C)
  | .w (.c (.sc (.i k a))), .w (.c (.sc (.i k' b))) => if k = k' then binI op k a b else none
  | .w (.c x), .w (.c y) => match C.val x, C.val y with
    | some (.b a), some (.b b) => cond bl (match op with
      | .eql => some ([], .sc (.b (a == b)))
      | .neq => some ([], .sc (.b (a != b)))
      | _ => none) none
    | _, _ => none
  | _, _ => none
def unV (op : UnOp) : V → Option C
  | .w (.c x) =>
    match op, x with
    | .not, .kb b => some (.kb (!b))
    | .not, .bo p i => some (.nb p i)
    | .not, .nb p i => some (.bo p i)
    | .not, .sc (.b b) => some (.nb (b = true) inferInstance)
    | .neg, .sc (.i k n) => some (.sc (.i k (wr k (0 - n))))
    | _, _ => none
  | _ => none
def vals : List C → Option (List Sc)
  | [] => some []
  | c :: r => match c.val, vals r with
    | some v, some vs => some (v :: vs)
    | _, _ => none
def W.cells : W → List C
  | .c x => [x]
  | .ag cs => cs
def zeroC (P : Program) (nx : Nat) : List Value → List Field → Option (Nat × List C × List (Nat × Blk R))
  | [], [] => some (nx, [], [])
  | .slice none 0 0 :: vs, f :: fs =>
    match P.underlying f.type with
    | some (.slice e) => match (RowT.nil e : Option R), zeroC P (nx + 1) vs fs with
      | some r, some (nx', cs, es) => some (nx', .rw nx :: cs, es ++ [(nx, .rows 2 r)])
      | _, _ => none
    | _ => none
  | .int k n :: vs, _ :: fs => match zeroC P nx vs fs with
    | some (nx', cs, es) => some (nx', .sc (.i k n) :: cs, es)
    | none => none
  | .bool b :: vs, _ :: fs => match zeroC P nx vs fs with
    | some (nx', cs, es) => some (nx', .kb b :: cs, es)
    | none => none
  | _, _ => none
def zeroOf (P : Program) (t : TypeId) (st : St R) : Option (St R × List C) :=
  match P.underlying t, P.info? t with
  | some (.struct fs), some i => match i.zero with
    | some (.agg cs) => match zeroC P st.nx cs.toList fs.toList with
      | some (nx, cs, es) => some ({ st with nx := nx, hp := es ++ st.hp }, cs)
      | none => none
    | _ => none
  | _, _ => none
def newRows (st : St R) (d : Option Nat) (r : R) : Option (St R) :=
  ({ st with nx := st.nx + 1, hp := (st.nx, .rows 2 r) :: st.hp } : St R).put d (.w (.c (.rw st.nx)))
def newBox (st : St R) (d : Option Nat) (t : TypeId) (cs : List C) : Option (St R) :=
  ({ st with nx := st.nx + 1, hp := (st.nx, .box t cs) :: st.hp } : St R).put d (.pt st.nx 0)
def parts (st : St R) : List (Nat × Operand) → List C → Option (List C)
  | [], cs => some cs
  | (i, x) :: r, cs => match ev st x with
    | .w (.c y) => match nth cs i with
      | some _ => parts st r (setAt cs i y)
      | none => none
    | _ => none
def elems (st : St R) : List (Nat × Operand) → Nat → R → Option R
  | [], _, r => some r
  | (i, x) :: rest, n, r => cond (Nat.beq i n) (match ev st x with
    | .w y => match vals y.cells with
      | some vs => match RowT.snoc r vs with
        | some r' => elems st rest (n + 1) r'
        | none => none
      | none => none
    | _ => none) none
def offOf (P : Program) (fs : List Field) (f : Nat) : Option Nat := match nth fs f with
  | some x => cond (Nat.beq (P.cellsOf x.type) 1) (some x.offset) none
  | none => none
def isStruct (P : Program) (t : TypeId) : Bool := match P.underlying t with
  | some (.struct _) => true
  | _ => false
def isOne (P : Program) (t : TypeId) : Bool := Nat.beq (P.cellsOf t) 1 && match P.underlying t with
  | some (.int _) => true
  | some .bool => true
  | some (.slice _) => true
  | _ => false
def plainF (P : Program) : List Field → Nat → Bool
  | [], _ => true
  | f :: r, n => Nat.beq f.offset n && Nat.beq (P.cellsOf f.type) 1 && plainF P r (n + 1)
def plainS (P : Program) (t : TypeId) (n : Nat) : Bool := match P.underlying t with
  | some (.struct fs) => plainF P fs.toList 0 && Nat.beq n fs.size
  | _ => false
def lim (bytes : Nat) : Nat := 140737488355328 / bytes + 1
def limM (bytes : Nat) : Nat := 281474976710656 / bytes + 1
def mvOf (P : Program) (o : Oper) (st : St R) (x : Operand) : Option (List Tst × St R) := match ev st x with
  | .nl => match x with
    | .const _ => match P.underlying o.type with
      | some (.slice e) => match (RowT.nil e : Option R) with
        | some r => match newRows st o.dst r with
          | some s => some ([], s)
          | none => none
        | none => none
      | _ => none
    | _ => none
  | .no => none
  | .un => none
  | v => match st.put o.dst v with
    | some s => some ([], s)
    | none => none
def pop (P : Program) (o : Oper) (st : St R) : Option (List Tst × St R) :=
  let ok (s : Option (St R)) : Option (List Tst × St R) := match s with
    | some s => some ([], s)
    | none => none
  match o.op with
  | .move x => mvOf P o st x
  | .assign x => mvOf P o st x
  | .pick c a b => match ev st c with
    | .w (.c (.kb true)) => match ev st a with
      | .w (.c x) => ok (st.put o.dst (.w (.c x)))
      | _ => none
    | .w (.c (.kb false)) => match ev st b with
      | .w (.c x) => ok (st.put o.dst (.w (.c x)))
      | _ => none
    | _ => none
  | .alloc t => match zeroOf P t st with
    | some (st', cs) => ok (newBox st' o.dst t cs)
    | none => none
  | .box t x => match ev st x with
    | .w y => ok (newBox st o.dst t y.cells)
    | _ => none
  | .build t ps => match zeroOf P t st with
    | some (st', cs) => match parts st ps.toList cs with
      | some cs' => cond (plainS P t cs.length) (ok (st'.put o.dst (.w (.ag cs')))) none
      | none => none
    | none => none
  | .buildSlice t n ps => match P.underlying t with
    | some (.slice e) => match (RowT.nil e : Option R) with
      | some r0 => match elems st ps.toList 0 r0 with
        | some r => cond (Nat.beq n ps.size && Nat.ble (n * P.cellsOf e) 16777216) (ok (newRows st o.dst r)) none
        | none => none
      | none => none
    | _ => none
  | .load t x => match ev st x with
    | .pt id off => match get st.hp id with
      | some (.box t' cs) =>
        cond (isStruct P t && Nat.beq off 0 && Nat.beq t t' && Nat.beq (P.cellsOf t) cs.length) (ok (st.put o.dst (.w (.ag cs))))
          (cond (isOne P t) (match nth cs off with
            | some c => ok (st.put o.dst (.w (.c c)))
            | none => none) none)
      | _ => none
    | .ep id _ i off => match get st.hp id with
      | some (.rows _ r) =>
        cond (isStruct P t && Nat.beq off 0 && Nat.beq t (RowT.ty r)) (ok (st.put o.dst (.w (.ag ((RowT.elt r i).map .sc)))))
          (cond (isOne P t) (match nth (RowT.elt r i) off with
            | some v => ok (st.put o.dst (.w (.c (.sc v))))
            | none => none) none)
      | _ => none
    | _ => none
  | .store t a x => match o.dst, ev st a, ev st x with
    | none, .pt id off, .w y => match get st.hp id with
      | some (.box t' cs) => match y with
        | .ag ys => cond (isStruct P t && Nat.beq off 0 && Nat.beq t t' && Nat.beq ys.length cs.length && Nat.beq (P.cellsOf t) cs.length) (some ([], { st with hp := (id, .box t' ys) :: st.hp })) none
        | .c y => cond (isOne P t) (match nth cs off with
          | some _ => some ([], { st with hp := (id, .box t' (setAt cs off y)) :: st.hp })
          | none => none) none
      | _ => none
    | none, .ep id _ i off, .w y => match get st.hp id with
      | some (.rows (k + 1) r) => match y with
        | .ag ys => match vals ys with
          | some vs => cond (isStruct P t && Nat.beq off 0 && Nat.beq t (RowT.ty r)) (match RowT.set r i vs with
            | some r' => some ([], { st with hp := (id, .rows (k + 1) r') :: st.hp })
            | none => none) none
          | none => none
        | .c y => match y.val with
          | some v => cond (isOne P t) (match nth (RowT.elt r i) off with
            | some _ => match RowT.set r i (setAt (RowT.elt r i) off v) with
              | some r' => some ([], { st with hp := (id, .rows (k + 1) r') :: st.hp })
              | none => none
            | none => none) none
          | none => none
      | _ => none
    | _, _, _ => none
  | .nilCheck x => match ev st x with
    | .pt id off => match get st.hp id with
      | some (.box _ _) => ok (st.put o.dst (.pt id off))
      | _ => none
    | _ => none
  | .binOp op t x y _ => match binV (isBool P t) op (ev st x) (ev st y) with
    | some (ts, c) => match st.put o.dst (.w (.c c)) with
      | some st' => some (ts, st')
      | none => none
    | none => none
  | .unOp op _ x => match unV op (ev st x) with
    | some c => ok (st.put o.dst (.w (.c c)))
    | none => none
  | .convert s d x => match ev st x, P.underlying s, P.underlying d with
    | .w (.c (.sc (.i _ n))), some (.int _), some (.int k) => ok (st.put o.dst (.w (.c (.sc (.i k (wr k n))))))
    | _, _, _ => none
  | .makeSlice t l c => match P.underlying t, ev st l, ev st c with
    | some (.slice e), .w (.c (.sc (.i .i64 n))), .w (.c (.sc (.i .i64 m))) => match (RowT.zer e n.toNat : Option R), P.info? e with
      | some r, some i => match newRows st o.dst r with
        | some st' => some ([⟨n = m, inferInstance⟩, ⟨0 ≤ n, inferInstance⟩, ⟨n < (limM i.bytes : Nat), inferInstance⟩], st')
        | none => none
      | _, _ => none
    | _, _, _ => none
  | .fieldAddr s x f => match P.underlying s, ev st x with
    | some (.struct fs), .pt id off => match offOf P fs.toList f, get st.hp id with
      | some k, some (.box _ _) => cond (Nat.beq off 0) (ok (st.put o.dst (.pt id k))) none
      | _, _ => none
    | some (.struct fs), .ep id sz i off => match offOf P fs.toList f, get st.hp id with
      | some k, some (.rows _ _) => cond (Nat.beq off 0) (ok (st.put o.dst (.ep id sz i k))) none
      | _, _ => none
    | _, _ => none
  | .indexAddr t x i => match P.underlying t, ev st x, ev st i with
    | some (.slice e), .w (.c (.rw id)), .w (.c (.sc (.i _ n))) => match get st.hp id, P.info? e with
      | some (.rows _ r), some inf => cond (Nat.beq e (RowT.ty r)) (match st.put o.dst (.ep id inf.size n.toNat 0) with
        | some st' => some ([⟨0 ≤ n, inferInstance⟩, ⟨n < (RowT.len r : Nat), inferInstance⟩], st')
        | none => none) none
      | _, _ => none
    | _, _, _ => none
  | .extract x k => match ev st x with
    | .tu ws => match nth ws k with
      | some y => ok (st.put o.dst (.w y))
      | none => none
    | _ => none
  | .call c => match c.callee with
    | .builtin .len => match c.args.toList, c.argTypes.toList with
      | [x], [t] => match ev st x, P.underlying t with
        | .w (.c (.rw id)), some (.slice _) => match get st.hp id with
          | some (.rows _ r) => ok (st.put o.dst (.w (.c (.sc (.i .i64 (RowT.len r : Nat))))))
          | _ => none
        | _, _ => none
      | _, _ => none
    | .builtin .min => match c.args.toList with
      | [x, y] => match ev st x, ev st y with
        | .w (.c (.sc (.i k a))), .w (.c (.sc (.i k' b))) => if k = k' then ok (st.put o.dst (.w (.c (.sc (.i k (if b < a then b else a)))))) else none
        | _, _ => none
      | _ => none
    | .builtin .append => match c.args.toList, c.argTypes.toList with
      | [x, y], [t, u] => match ev st x, ev st y, P.underlying t with
        | .w (.c (.rw id)), .w (.c (.rw jd)), some (.slice e) => cond (Nat.beq t u && !Nat.beq id jd) (match get st.hp id, get st.hp jd, P.info? e with
          | some (.rows 2 r), some (.rows _ s), some inf => match cond (Nat.beq e (RowT.ty r)) (RowT.app r s) none with
            | some r' => match ({ st with nx := st.nx + 1, hp := (st.nx, .rows 2 r') :: (id, .dead) :: st.hp } : St R).put o.dst (.w (.c (.rw st.nx))) with
              | some st' => some ([⟨RowT.len r + RowT.len s < lim inf.bytes, inferInstance⟩], st')
              | none => none
            | none => none
          | _, _, _ => none) none
        | _, _, _ => none
      | _, _ => none
    | _ => none
  | _ => none
abbrev Mean (R : Type) := Nat → List V → List (Blk R) → (Z : Type) → (Out R → Option Z) → Option Z
def packC : List C → Nat → Option (List C × List Nat)
  | [], _ => some ([], [])
  | .rw id :: r, n => match packC r (n + 1) with
    | some (cs, ids) => some (.rw n :: cs, id :: ids)
    | none => none
  | c :: r, n => match c.val, packC r n with
    | some v, some (cs, ids) => some (.sc v :: cs, ids)
    | _, _ => none
def lend (lent : Bool) : Blk R → Option (Blk R)
  | .rows k r => cond lent (match k with
    | 0 => none
    | _ => some (.rows 1 r)) (some (.rows 0 r))
  | _ => none
def lendAll (st : St R) (lent : Bool) : List Nat → Option (List (Blk R))
  | [] => some []
  | id :: r => match get st.hp id with
    | some b => match lend lent b, lendAll st lent r with
      | some b', some bs => some (b' :: bs)
      | _, _ => none
    | none => none
def packV (st : St R) (lent : Bool) (v : V) (n : Nat) : Option (V × List (Blk R) × List Nat) :=
  match v with
  | .w (.c x) => match packC [x] n with
    | some ([y], ids) => match lendAll st lent ids with
      | some bs => some (.w (.c y), bs, ids)
      | none => none
    | _ => none
  | .w (.ag xs) => match packC xs n with
    | some (ys, ids) => match lendAll st lent ids with
      | some bs => some (.w (.ag ys), bs, ids)
      | none => none
    | none => none
  | .pt id 0 => match get st.hp id with
    | some (.box t cs) => match packC cs (n + 1) with
      | some (ys, ids) => match lendAll st false ids with
        | some bs => some (.pt n 0, .box t ys :: bs, id :: ids)
        | none => none
      | none => none
    | _ => none
  | _ => none
def pack (st : St R) (lent : Bool) : List Operand → Nat → Option (List V × List (Blk R) × List Nat)
  | [], _ => some ([], [], [])
  | x :: r, n => match packV st lent (ev st x) n with
    | some (v, bs, ids) => match pack st lent r (n + ids.length) with
      | some (vs, bs', ids') => some (v :: vs, bs ++ bs', ids ++ ids')
      | none => none
    | none => none
def nodup : List Nat → Bool
  | [] => true
  | x :: r => !(r.any (Nat.beq x)) && nodup r
def back (src : List Nat) (nx : Nat) (id : Nat) : Nat := match nth src id with
  | some j => j
  | none => nx + (id - src.length)
def backC (src : List Nat) (nx : Nat) : C → C
  | .rw id => .rw (back src nx id)
  | c => c
def backW (src : List Nat) (nx : Nat) : W → W
  | .c x => .c (backC src nx x)
  | .ag xs => .ag (xs.map (backC src nx))
def absorbH (src : List Nat) (nx : Nat) : List (Blk R) → List (Blk R) → Nat → List (Nat × Blk R) → Option (List (Nat × Blk R))
  | [], _, _, hp => some hp
  | b :: bs, olds, n, hp =>
    match olds, b with
    | .rows 0 _ :: olds, .rows 0 _ => absorbH src nx bs olds (n + 1) hp
    | .rows 1 _ :: olds, .rows 1 r => match get hp (back src nx n) with
      | some (.rows k _) => absorbH src nx bs olds (n + 1) ((back src nx n, .rows k r) :: hp)
      | _ => none
    | .box t _ :: olds, .box _ cs => absorbH src nx bs olds (n + 1) ((back src nx n, .box t (cs.map (backC src nx))) :: hp)
    | [], .rows 2 r => absorbH src nx bs [] (n + 1) ((back src nx n, .rows 2 r) :: hp)
    | _, _ => none
def resV (src : List Nat) (nx : Nat) : List W → V
  | [y] => .w (backW src nx y)
  | ys => .tu (ys.map (backW src nx))
def absorb (st : St R) (src : List Nat) (bs : List (Blk R)) (d : Option Nat) (out : Out R) : Option (St R) :=
  match absorbH src st.nx out.hp bs 0 st.hp with
  | some hp => ({ st with nx := st.nx + (out.hp.length - src.length), hp := hp } : St R).put d (resV src st.nx out.res)
  | none => none
def quietOp : Op → Bool
  | .move x => match x with
    | .const (.slice _ _ _) => false
    | _ => true
  | .assign x => match x with
    | .const (.slice _ _ _) => false
    | _ => true
  | .pick _ _ _ => true
  | .load _ _ => true
  | .nilCheck _ => true
  | .binOp _ _ _ _ _ => true
  | .unOp _ _ _ => true
  | .convert _ _ _ => true
  | .fieldAddr _ _ _ => true
  | .indexAddr _ _ _ => true
  | .extract _ _ => true
  | .call c => match c.callee with
    | .builtin .len => true
    | .builtin .min => true
    | _ => false
  | _ => false
def idOf : V → List Nat
  | .pt id _ => [id]
  | .ep id _ _ _ => [id]
  | .w (.c (.rw id)) => [id]
  | _ => []
def loads (st : St R) (o : Oper) : List Nat := match o.op with
  | .load _ x => idOf (ev st x)
  | _ => []
def writes (st : St R) (o : Oper) : List Nat := match o.op with
  | .store _ x _ => idOf (ev st x)
  | .call c => match c.callee with
    | .builtin .append => match c.args.toList with
      | x :: _ => idOf (ev st x)
      | _ => []
    | _ => []
  | _ => []
def callOf (o : Oper) : Option (FuncId × List Operand) := match o.op with
  | .call c => match c.callee with
    | .value (.func f) => some (f, c.args.toList)
    | _ => none
  | _ => none
structure Cal (R : Type) where
  f : FuncId
  lent : Bool
  sem : Mean R
def find : List (Cal R) → FuncId → Option (Cal R)
  | [], _ => none
  | o :: r, f => cond (Nat.beq o.f f) (some o) (find r f)
def tests {Z : Type} : List Tst → Option Z → Option Z
  | [], z => z
  | t :: r, z => @ite _ t.p t.i (tests r z) none
def part {Z : Type} (st : St R) (t : Nat) (F : Bool → St R → Option Z) : Option Z :=
  match st.v t with
  | .w (.c (.kb true)) => F true st
  | .w (.c (.kb false)) => F false st
  | .w (.c (.bo p i)) => @ite _ p i (F true (st.know t true)) (F false (st.know t false))
  | .w (.c (.nb p i)) => @ite _ p i (F false (st.know t false)) (F true (st.know t true))
  | .w (.c (.sc (.b b))) => if b = true then F true (st.know t true) else F false (st.know t false)
  | _ => none
def isRo : Blk R → Bool
  | .rows 0 _ => true
  | _ => false
def callW (bs : List (Blk R)) (src : List Nat) : List Nat := cond (bs.all isRo) [] src
def subset (l m : List Nat) : Bool := l.all fun x => m.any (Nat.beq x)
def within (lim : Option (List Nat)) (l : List Nat) : Bool := match lim with
  | none => true
  | some d => subset l d
def rowStore (P : Program) (o : Oper) (st : St R) : Option (Nat × Nat × R × Nat × List Sc) :=
  match o.op with
  | .store t a x => match o.dst, ev st a, ev st x with
    | none, .ep id _ i off, .w y => match get st.hp id with
      | some (.rows (k + 1) r) => match y with
        | .ag ys => match vals ys with
          | some vs => cond (isStruct P t && Nat.beq off 0 && Nat.beq t (RowT.ty r)) (some (id, k + 1, r, i, vs)) none
          | none => none
        | .c y => match y.val with
          | some v => cond (isOne P t) (match nth (RowT.elt r i) off with
            | some _ => some (id, k + 1, r, i, setAt (RowT.elt r i) off v)
            | none => none) none
          | none => none
      | _ => none
    | _, _, _ => none
  | _ => none
def eop {Z : Type} (P : Program) (O : List (Cal R)) (k : Nat) (lim : Option (List Nat)) (o : Oper) (st : St R) (K : St R → Option Z) : Option Z :=
  match callOf o with
  | some (f, xs) => match find O f with
    | some c => match pack st c.lent xs 0 with
      | some (vs, bs, src) => cond (nodup src && within lim (callW bs src)) (c.sem k vs bs Z fun out => match absorb st src bs o.dst out with
        | some st' => K st'
        | none => none) none
      | none => none
    | none => none
  | none => cond (within lim (writes st o)) (match rowStore P o st with
    | some (id, k, r, i, vs) => RowT.setK r i vs Z fun r' => K { st with hp := (id, .rows k r') :: st.hp }
    | none => match pop P o st with
      | some (ts, st') => tests ts (K st')
      | none => none) none
def guarded {Z : Type} (ops : List Oper) (o : Oper) (st : St R) (run pass : St R → Option Z) : Option Z :=
  match o.guard with
  | none => run st
  | some (j, want) => match (nth ops j).bind (·.dst) with
    | some t => match st.v t with
      | .un => pass st
      | _ => part st t fun b st' => cond (b == want) (run st') (pass st')
    | none => none
def passed {Z : Type} (o : Oper) (st : St R) (K : St R → Option Z) : Option Z := match st.put o.dst .un with
  | some st' => K st'
  | none => none
def eops {Z : Type} (P : Program) (O : List (Cal R)) (k : Nat) (ops : List Oper) : List Oper → St R → (St R → Option Z) → Option Z
  | [], st, K => K st
  | o :: rest, st, K => guarded ops o st (fun st' => eop P O k none o st' fun st'' => eops P O k ops rest st'' K) (fun st' => passed o st' fun st'' => eops P O k ops rest st'' K)
def firstQ (ops : Array Oper) (listed : Array Bool) : List Nat → Option Nat
  | [] => none
  | i :: r => cond ((match ops[i]? with
    | some o => quietOp o.op
    | none => false) && Region.free .any ops listed i) (some i) (firstQ ops listed r)
def mkPlan (ops : Array Oper) : Nat → Array Bool → Option (List Nat)
  | 0, listed => match Region.ready .any ops listed with
    | [] => some []
    | _ => none
  | f + 1, listed => match Region.ready .any ops listed with
    | [] => some []
    | i :: r => match firstQ ops listed (i :: r) with
      | some j => match mkPlan ops f (listed.setIfInBounds j true) with
        | some l => some (j :: l)
        | none => none
      | none => match r with
        | [] => match mkPlan ops f (listed.setIfInBounds i true) with
          | some l => some (i :: l)
          | none => none
        | _ => none
def plan (ops : Array Oper) : Option (List Nat) := cond (Region.noSelect ops) (mkPlan ops ops.size (Array.replicate ops.size false)) none
def dirty (st : St R) : List Oper → List Nat
  | [] => []
  | o :: r => match o.op with
    | .store _ x _ => match ev st x with
      | .pt id _ => match get st.hp id with
        | some (.box _ _) => id :: dirty st r
        | _ => dirty st r
      | _ => dirty st r
    | _ => dirty st r
def okLoad (d : List Nat) (n0 : Nat) (st : St R) (o : Oper) : Bool := (loads st o).all fun id => Nat.blt id n0 && !(d.any (Nat.beq id))
def eopsD {Z : Type} (P : Program) (O : List (Cal R)) (k : Nat) (ops : List Oper) (d : List Nat) (n0 : Nat) : List Nat → St R → (St R → Option Z) → Option Z
  | [], st, K => K st
  | i :: rest, st, K => match nth ops i with
    | some o => guarded ops o st (fun st' => cond (!quietOp o.op || okLoad d n0 st' o) (eop P O k (some d) o st' fun st'' => eopsD P O k ops d n0 rest st'' K) none) (fun st' => passed o st' fun st'' => eopsD P O k ops d n0 rest st'' K)
    | none => none
def eregion {Z : Type} (P : Program) (O : List (Cal R)) (k : Nat) (ops : Array Oper) (draw : Bool) (st : St R) (K : St R → Option Z) : Option Z :=
  cond draw (match plan ops with
    | some l => eopsD P O k ops.toList (dirty st ops.toList) st.nx l st K
    | none => none) (eops P O k ops.toList ops.toList st K)
inductive Ex where
  | normal
  | exit (id : Nat)
  | ret
def idsC : C → List Nat
  | .rw id => [id]
  | _ => []
def idsW : W → List Nat
  | .c x => idsC x
  | .ag xs => xs.flatMap idsC
def idsV : V → List Nat
  | .w y => idsW y
  | .tu ws => ws.flatMap idsW
  | .pt id _ => [id]
  | .ep id _ _ _ => [id]
  | _ => []
def addIds : List Nat → List Nat → List Nat
  | acc, [] => acc
  | acc, x :: r => addIds (cond (acc.any (Nat.beq x)) acc (acc ++ [x])) r
def boxIds (st : St R) (id : Nat) : List Nat := match get st.hp id with
  | some (.box _ cs) => cs.flatMap idsC
  | _ => []
def idx : List Nat → Nat → Nat → Option Nat
  | [], _, _ => none
  | x :: r, n, i => cond (Nat.beq x n) (some i) (idx r n (i + 1))
def fixC : C → C
  | .kb b => .sc (.b b)
  | .bo p i => .sc (.b (@decide p i))
  | .nb p i => .sc (.b (!@decide p i))
  | c => c
def toC (l : List Nat) : C → Option C
  | .rw id => (idx l id 0).map .rw
  | c => some (fixC c)
def toCs (l : List Nat) : List C → Option (List C)
  | [] => some []
  | c :: r => match toC l c, toCs l r with
    | some c, some r => some (c :: r)
    | _, _ => none
def toW (l : List Nat) : W → Option W
  | .c x => (toC l x).map .c
  | .ag xs => (toCs l xs).map .ag
def toV (l : List Nat) : V → Option V
  | .w y => (toW l y).map .w
  | .pt id off => (idx l id 0).map fun j => .pt j off
  | .no => some .no
  | _ => none
def toTm (l : List Nat) (st : St R) : List Nat → Option (List (Nat × V))
  | [] => some []
  | t :: r => match toV l (st.v t), toTm l st r with
    | some v, some tm => some ((t, v) :: tm)
    | _, _ => none
def toBlk (l : List Nat) : Blk R → Option (Blk R)
  | .rows k r => some (.rows k r)
  | .box t cs => (toCs l cs).map (.box t)
  | .dead => none
def toHp (l : List Nat) (st : St R) : List Nat → Nat → Option (List (Nat × Blk R))
  | [], _ => some []
  | id :: r, n => match get st.hp id with
    | some b => match toBlk l b, toHp l st r (n + 1) with
      | some b', some hp => some ((n, b') :: hp)
      | _, _ => none
    | none => none
def firsts : List Nat → Nat → Nat → Bool
  | _, _, 0 => true
  | [], _, _ + 1 => false
  | x :: r, i, n + 1 => Nat.beq x i && firsts r (i + 1) n
def named (l : List Nat) (na : Nat) : Bool := nodup l && firsts l 0 na
def canon (live : List Nat) (st : St R) : Option (St R) :=
  let l0 := live.foldl (fun l t => addIds l (idsV (st.v t))) (List.range st.na)
  let l := l0.foldl (fun l id => addIds l (boxIds st id)) l0
  cond (named l st.na) (match toTm l st live, toHp l st l 0 with
    | some tm, some hp => some { nt := st.nt, na := st.na, nx := l.length, tm := tm, hp := hp }
    | _, _ => none) none
def results1 (P : Program) (st : St R) : ResultVar → Option W
  | .tmp t => match st.v t with
    | .w y => some y
    | _ => none
  | .cell t ty => match st.v t with
    | .pt id 0 => match get st.hp id with
      | some (.box t' cs) => cond (isStruct P ty && Nat.beq ty t' && Nat.beq (P.cellsOf ty) cs.length) (some (.ag cs)) none
      | _ => none
    | _ => none
def resultsAll (P : Program) (st : St R) : List ResultVar → Option (List W)
  | [] => some []
  | r :: rs => match results1 P st r, resultsAll P st rs with
    | some y, some ys => some (y :: ys)
    | _, _ => none
def toWs (l : List Nat) : List W → Option (List W)
  | [] => some []
  | y :: r => match toW l y, toWs l r with
    | some y, some r => some (y :: r)
    | _, _ => none
def allOwn : List (Nat × Blk R) → Nat → Bool
  | [], _ => true
  | (i, b) :: r, na => (Nat.blt i na || match b with
    | .rows 2 _ => true
    | _ => false) && allOwn r na
def vals2 : List (Nat × Blk R) → List (Blk R)
  | [] => []
  | (_, b) :: r => b :: vals2 r
def finish (P : Program) (rs : List ResultVar) (st : St R) : Option (Out R) :=
  match resultsAll P st rs with
  | some ys =>
    let l1 := (List.range st.na).foldl (fun l id => addIds l (boxIds st id)) (List.range st.na)
    let l := ys.foldl (fun l y => addIds l (idsW y)) l1
    match toWs l ys, toHp l st l 0 with
    | some ws, some hp => cond (named l st.na && allOwn hp st.na) (some { res := ws, hp := vals2 hp }) none
    | _, _ => none
  | none => none
structure Cut (R : Type) where
  p : List Bool
  live : List Nat
  f : Nat → St R → Option (Out R)
def eqP : List Bool → List Bool → Bool
  | [], [] => true
  | x :: a, y :: b => x == y && eqP a b
  | _, _ => false
def cutAt : List (Cut R) → List Bool → Option (Cut R)
  | [], _ => none
  | c :: r, p => cond (eqP c.p p) (some c) (cutAt r p)
def stop (k : Nat) (c : Cut R) (st : St R) : Option (Out R) := match canon c.live st with
  | some st' => c.f k st'
  | none => none
def ecode (P : Program) (O : List (Cal R)) (cs : List (Cut R)) (k : Nat) : Code → List Bool → St R → (Ex → St R → Option (Out R)) → Option (Out R)
  | .skip, _, st, K => K .normal st
  | .region _ ops draw, _, st, K => eregion P O k ops draw st fun st' => K .normal st'
  | .seq a b, p, st, K => match cutAt cs p with
    | some c => stop k c st
    | none => ecode P O cs k a (false :: p) st fun e st' => match e with
      | .normal => ecode P O cs k b (true :: p) st' K
      | e => K e st'
  | .cond c a b, p, st, K => match c with
    | .tmp t => match cutAt cs p with
      | some c => stop k c st
      | none => part st t fun x st' => cond x (ecode P O cs k a (false :: p) st' K) (ecode P O cs k b (true :: p) st' K)
    | _ => none
  | .block id a, p, st, K => ecode P O cs k a (false :: p) st fun e st' => match e with
    | .exit j => cond (Nat.beq j id) (K .normal st') (K (.exit j) st')
    | e => K e st'
  | .loop _, p, st, _ => match cutAt cs p with
    | some c => stop k c st
    | none => none
  | .exit id, _, st, K => K (.exit id) st
  | .ret, _, st, K => K .ret st
  | _, _, _, _ => none
def sub (c : Code) : List Bool → Option Code
  | [] => some c
  | d :: p => match sub c p with
    | some (.seq a b) => some (cond d b a)
    | some (.cond _ a b) => some (cond d b a)
    | some (.block _ a) => some a
    | some (.loop a) => some a
    | _ => none
def kr (P : Program) (O : List (Cal R)) (cs : List (Cut R)) (k : Nat) (c : Code) (K0 : Ex → St R → Option (Out R)) : List Bool → Ex → St R → Option (Out R)
  | [] => K0
  | d :: p => match sub c p with
    | some (.seq _ b) => cond d (kr P O cs k c K0 p) fun e st => match e with
      | .normal => ecode P O cs k b (true :: p) st (kr P O cs k c K0 p)
      | e => kr P O cs k c K0 p e st
    | some (.cond _ _ _) => kr P O cs k c K0 p
    | some (.block id _) => fun e st => match e with
      | .exit j => cond (Nat.beq j id) (kr P O cs k c K0 p .normal st) (kr P O cs k c K0 p (.exit j) st)
      | e => kr P O cs k c K0 p e st
    | some (.loop _) => fun e st => match e with
      | .normal => match cutAt cs p with
        | some c => stop k c st
        | none => none
      | e => kr P O cs k c K0 p e st
    | _ => fun _ _ => none
def kEnd (P : Program) (rs : List ResultVar) (e : Ex) (st : St R) : Option (Out R) := match e with
  | .exit _ => none
  | _ => finish P rs st
def seg (P : Program) (O : List (Cal R)) (cs : List (Cut R)) (k : Nat) (c : Code) (K0 : Ex → St R → Option (Out R)) (p : List Bool) (st : St R) : Option (Out R) :=
  match sub c p with
  | some (.loop a) => ecode P O cs k a (false :: p) st (kr P O cs k c K0 (false :: p))
  | some (.cond (.tmp t) a b) => part st t fun x st' => cond x (ecode P O cs k a (false :: p) st' (kr P O cs k c K0 p)) (ecode P O cs k b (true :: p) st' (kr P O cs k c K0 p))
  | some (.seq a b) => ecode P O cs k a (false :: p) st fun e st' => match e with
    | .normal => ecode P O cs k b (true :: p) st' (kr P O cs k c K0 p)
    | e => kr P O cs k c K0 p e st'
  | _ => none
def number {α : Type} : List α → Nat → List (Nat × α)
  | [], _ => []
  | x :: r, n => (n, x) :: number r (n + 1)
def start (nt : Nat) (args : List V) (hp : List (Blk R)) : St R := { nt := nt, na := hp.length, nx := hp.length, tm := number args 0, hp := number hp 0 }
def enter (P : Program) (O : List (Cal R)) (cs : List (Cut R)) (k : Nat) (fn : Func) (c : Code) (args : List V) (hp : List (Blk R)) : Option (Out R) :=
  cond (Nat.ble args.length fn.ntmps) (ecode P O cs k c [] (start fn.ntmps args hp) (kEnd P fn.results.toList)) none
end
end Go.Proofs.Ytmfgajbkcnlkcaa.AI
namespace Go.Proofs.Ytmfgajbkcnlkcaa.AI
set_option linter.all false
open Go Go.RowKit
section
variable {R : Type} [RowT R]
def flat (r : R) : List Value := (RowT.cel r).flatten.map Sc.v
class RowL (P : Program) (R : Type) [RowT R] : Prop where
  len_eq : ∀ r : R, RowT.len r = (RowT.cel r).length
  elt_eq : ∀ (r : R) (i : Nat), i < RowT.len r → (RowT.cel r)[i]? = some (RowT.elt r i)
  nil_eq : ∀ (t : TypeId) (r : R), RowT.nil t = some r → RowT.cel r = [] ∧ RowT.ty r = t
  zer_eq : ∀ (t : TypeId) (n : Nat) (r : R), RowT.zer t n = some r → RowT.ty r = t ∧ ∃ i z cs, P.info? t = some i ∧ i.zero = some z ∧ z.cells.toList = List.map Sc.v cs ∧ RowT.cel r = List.replicate n cs
  snoc_eq : ∀ (r r' : R) (c : List Sc), RowT.snoc r c = some r' → RowT.cel r' = RowT.cel r ++ [c] ∧ RowT.ty r' = RowT.ty r
  app_eq : ∀ (r s r' : R), RowT.app r s = some r' → RowT.cel r' = RowT.cel r ++ RowT.cel s ∧ RowT.ty r' = RowT.ty r ∧ RowT.ty s = RowT.ty r
  setK_eq : ∀ (r : R) (i : Nat) (c : List Sc) (Z : Type) (K : R → Option Z) (z : Z), RowT.setK r i c Z K = some z → ∃ r', RowT.set r i c = some r' ∧ K r' = some z
  set_eq : ∀ (r r' : R) (i : Nat) (c : List Sc), RowT.set r i c = some r' → RowT.cel r' = (RowT.cel r).set i c ∧ RowT.ty r' = RowT.ty r
  info : ∀ r : R, ∃ i z, P.info? (RowT.ty r) = some i ∧ i.zero = some z ∧ z.cells.size = i.size ∧ 0 < i.size ∧ 0 < i.bytes ∧ ∀ c ∈ RowT.cel r, c.length = i.size
def conc (g : Nat → Value) : C → Value
  | .sc v => v.v
  | .kb b => .bool b
  | .bo p i => .bool (@decide p i)
  | .nb p i => .bool (!@decide p i)
  | .rw id => g id
def concW (g : Nat → Value) : W → Value
  | .c x => conc g x
  | .ag cs => .agg (cs.map (conc g)).toArray
def concV (g : Nat → Value) : V → Value
  | .w y => concW g y
  | .tu ws => .tuple (ws.map (concW g)).toArray
  | .pt id off => match g id with
    | .pointer (some a) => .pointer (some ⟨a.block, off, none⟩)
    | v => v
  | .ep id sz i off => match g id with
    | .slice (some a) _ _ => .pointer (some (a.add (i * sz + off)))
    | v => v
  | .nl => .slice none 0 0
  | .un => undef
  | .no => undef
def blkOf : Value → Option Nat
  | .slice (some a) _ _ => some a.block
  | .pointer (some a) => some a.block
  | _ => none
def BlkOK (P : Program) (g : Nat → Value) (w : World) (base : Nat) (id : Nat) : Blk R → Prop
  | .rows 0 r => ∃ A cap, g id = .slice A (RowT.len r) cap ∧ RowT.len r ≤ cap ∧ RowT.len r ≤ maxLen ∧ ∀ j u, (flat r)[j]? = some u → ∃ ad, A = some ad ∧ w.cell? (ad.add j) = some u
  | .rows (k + 1) r => w.ownsRow (if k = 1 then base else 0) (RowT.ty r) (P.cellsOf (RowT.ty r)) (g id) (RowT.len r) (flat r)
  | .box t cs => ∃ b, g id = .pointer (some ⟨b, 0, none⟩) ∧ w.heap[b]? = some (.cells (cs.map (conc g)).toArray t (0, 0)) ∧ ∀ c ∈ cs, (conc g c).oneCell' = true
  | .dead => True
def HasB (g : Nat → Value) (id : Nat) (n : Nat) : Blk R → Prop
  | .rows 0 r => blkOf (g id) = some n ∧ 0 < RowT.len r
  | .dead => False
  | _ => blkOf (g id) = some n
def Blk.mut : Blk R → Prop
  | .rows 0 _ => False
  | .dead => False
  | _ => True
def idsB : Blk R → List Nat
  | .box _ cs => cs.flatMap idsC
  | _ => []
structure Fr (w0 : World) (L : Nat → Prop) (w : World) : Prop where
  os : w.os = w0.os
  tape : w.tape = w0.tape
  output : w.output = w0.output
  size : w0.heap.size ≤ w.heap.size
  block : ∀ k, k < w0.heap.size → ¬ L k → w.heap[k]? = w0.heap[k]?
structure HOK (P : Program) (w0 : World) (L : Nat → Prop) (nx : Nat) (hp : List (Nat × Blk R)) (g : Nat → Value) (w : World) : Prop where
  idB : ∀ id b, get hp id = some b → ∀ j ∈ idsB b, j < nx
  idH : ∀ id b, get hp id = some b → id < nx
  blk : ∀ id b, get hp id = some b → BlkOK P g w w0.heap.size id b
  sep : ∀ id b id' b' n, get hp id = some b → get hp id' = some b' → id ≠ id' → b.mut → HasB g id n b → ¬ HasB g id' n b'
  mutL : ∀ id b n, get hp id = some b → b.mut → HasB g id n b → w0.heap.size ≤ n ∨ L n
  one : ∀ id, id < nx → (g id).oneCell' = true
  frame : Fr w0 L w
theorem get_cons' {α : Type} (k : Nat) (v : α) (r : List (Nat × α)) (n : Nat) : get ((k, v) :: r) n = if k = n then some v else get r n := by
  simp only [get]
  by_cases h : k = n
  · subst h; simp
  · have : Nat.beq k n = false := by
      cases hb : Nat.beq k n
      · rfl
      · exact absurd (Nat.eq_of_beq_eq_true hb) h
    rw [if_neg h, this]; rfl
def EpOK (P : Program) (hp : List (Nat × Blk R)) : V → Prop
  | .ep id sz i _ => ∀ k r, get hp id = some (.rows k r) → i < RowT.len r ∧ sz = P.cellsOf (RowT.ty r)
  | _ => True
def SameKind : Blk R → Blk R → Prop
  | .rows k r, .rows k' r' => k = k' ∧ RowT.ty r = RowT.ty r'
  | .box t _, .box t' _ => t = t'
  | _, _ => False
theorem SameKind.refl {b : Blk R} (h : b ≠ .dead) : SameKind b b := by cases b <;> first | exact ⟨rfl, rfl⟩ | rfl | exact absurd rfl h
theorem SameKind.trans {a b c : Blk R} (h : SameKind a b) (k : SameKind b c) : SameKind a c := by
  cases a <;> cases b <;> first | exact h.elim | skip
  · cases c <;> first | exact k.elim | exact ⟨h.1.trans k.1, h.2.trans k.2⟩
  · cases c <;> first | exact k.elim | exact Eq.trans h k
def Blk.handed : Blk R → Prop
  | .rows 0 _ => True
  | .rows 1 _ => True
  | .box _ _ => True
  | _ => False
theorem Blk.handed.dead {b : Blk R} (h : b.handed) : b ≠ .dead := by rintro rfl; exact h
theorem Blk.handed.same {b c : Blk R} (h : b.handed) (hk : SameKind b c) : c.handed := by
  cases b with
  | rows k r =>
    cases c with
    | rows k' r' =>
      obtain ⟨rfl, _⟩ := hk
      match k, h with
      | 0, _ => trivial
      | 1, _ => trivial
    | box _ _ => exact hk.elim
    | dead => exact hk.elim
  | box t cs => cases c <;> first | exact hk.elim | trivial
  | dead => exact h.elim
def Same (nx : Nat) (hp hp' : List (Nat × Blk R)) : Prop := (∀ id k r, id < nx → get hp' id = some (.rows k r) → ∃ k0 r0, get hp id = some (.rows k0 r0) ∧ RowT.len r = RowT.len r0 ∧ RowT.ty r = RowT.ty r0) ∧
  ∀ id b, id < nx → get hp id = some b → b.handed → ∃ b', get hp' id = some b' ∧ SameKind b b'
theorem EpOK.same {P : Program} {nx : Nat} {hp hp' : List (Nat × Blk R)} {v : V} (h : EpOK P hp v) (hs : Same nx hp hp') (hi : ∀ id ∈ idsV v, id < nx) : EpOK P hp' v := by
  cases v <;> try trivial
  rename_i id sz i off
  intro k r hr
  obtain ⟨k0, r0, h1, h2, h3⟩ := hs.1 id k r (hi id (by simp [idsV])) hr
  rw [h2, h3]; exact h k0 r0 h1
theorem Same.refl (nx : Nat) (hp : List (Nat × Blk R)) : Same nx hp hp := ⟨fun _ k r _ h => ⟨k, r, h, rfl, rfl⟩, fun _ b _ h hh => ⟨b, h, SameKind.refl hh.dead⟩⟩
theorem Same.trans {nx nx' : Nat} {h0 h1 h2 : List (Nat × Blk R)} (a : Same nx h0 h1) (b : Same nx' h1 h2) (hn : nx ≤ nx') : Same nx h0 h2 := ⟨fun id k r hi hr => by
  obtain ⟨k1, r1, e1, e2, e3⟩ := b.1 id k r (by omega) hr
  obtain ⟨k0, r0, f1, f2, f3⟩ := a.1 id k1 r1 hi e1
  exact ⟨k0, r0, f1, e2.trans f2, e3.trans f3⟩, fun id c hi hc hh => by
  obtain ⟨c1, e1, e2⟩ := a.2 id c hi hc hh
  obtain ⟨c2, f1, f2⟩ := b.2 id c1 (by omega) e1 (hh.same e2)
  exact ⟨c2, f1, e2.trans f2⟩⟩
structure Inv (P : Program) (w0 : World) (L : Nat → Prop) (g0 : Nat → Value) (hp0 : List (Blk R)) (st : St R) (g : Nat → Value) (a : Act) (w : World) : Prop where
  defers : a.defers = []
  size : a.tmps.size = st.nt
  tm : ∀ t v, get st.tm t = some v → v ≠ .no → a.tmps[t]? = some (concV g v)
  idT : ∀ t v, get st.tm t = some v → ∀ id ∈ idsV v, id < st.nx
  ep : ∀ t v, get st.tm t = some v → EpOK P st.hp v
  keep : ∀ (i : Nat) b0, hp0[i]? = some b0 → ∃ b, get st.hp i = some b ∧ SameKind b0 b ∧ b.handed
  args : ∀ id, id < st.na → g id = g0 id
  na : st.na ≤ st.nx
  hpna : hp0.length = st.na
  heap : HOK P w0 L st.nx st.hp g w
theorem Same.cons {nx : Nat} {hp : List (Nat × Blk R)} {id : Nat} {b : Blk R} (h : nx ≤ id ∨ (∃ t cs cs', b = .box t cs ∧ get hp id = some (.box t cs')) ∨ (b = .dead ∧ ∃ r, get hp id = some (.rows 2 r)) ∨ ∃ k r r0, b = .rows k r ∧ get hp id = some (.rows k r0) ∧ RowT.len r = RowT.len r0 ∧ RowT.ty r = RowT.ty r0) : Same nx hp ((id, b) :: hp) := by
  constructor
  · intro i k r hi hr
    rw [get_cons'] at hr
    split at hr
    · rename_i e; subst e
      simp only [Option.some.injEq] at hr; subst hr
      rcases h with h | ⟨t, cs, cs', h, _⟩ | ⟨h, _⟩ | ⟨k1, r1, r0, e1, e2, e3, e4⟩
      · omega
      · simp at h
      · simp at h
      · injection e1 with e5 e6; subst e6; exact ⟨_, r0, e2, e3, e4⟩
    · exact ⟨k, r, hr, rfl, rfl⟩
  · intro i c hi hc hh
    rw [get_cons']
    split
    · rename_i e; subst e
      refine ⟨b, rfl, ?_⟩
      rcases h with h | ⟨t, cs, cs', rfl, h⟩ | ⟨_, r, h⟩ | ⟨k1, r1, r0, rfl, e2, e3, e4⟩
      · omega
      · rw [hc] at h; injection h with h; subst h; exact rfl
      · rw [hc] at h; injection h with h; subst h; exact hh.elim
      · rw [hc] at e2; injection e2 with e2; subst e2; exact ⟨rfl, e4.symm⟩
    · exact ⟨c, hc, SameKind.refl hh.dead⟩
theorem get_cons {α : Type} (k : Nat) (v : α) (r : List (Nat × α)) (n : Nat) : get ((k, v) :: r) n = if k = n then some v else get r n := by
  simp only [get]
  by_cases h : k = n
  · subst h; simp
  · have : Nat.beq k n = false := by
      cases hb : Nat.beq k n
      · rfl
      · exact absurd (Nat.eq_of_beq_eq_true hb) h
    rw [if_neg h, this]; rfl
theorem concC_congr {g g' : Nat → Value} {c : C} (h : ∀ id ∈ idsC c, g' id = g id) : conc g' c = conc g c := by
  cases c <;> simp only [conc]
  rename_i id; exact h id (by simp [idsC])
theorem concCs_congr {g g' : Nat → Value} {cs : List C} (h : ∀ id ∈ cs.flatMap idsC, g' id = g id) : cs.map (conc g') = cs.map (conc g) :=
  List.map_congr_left fun c hc => concC_congr fun id hid => h id (List.mem_flatMap.2 ⟨c, hc, hid⟩)
theorem concW_congr {g g' : Nat → Value} {y : W} (h : ∀ id ∈ idsW y, g' id = g id) : concW g' y = concW g y := by
  cases y with
  | c x => exact concC_congr h
  | ag cs => simp only [concW]; rw [concCs_congr h]
theorem concV_congr {g g' : Nat → Value} {v : V} (h : ∀ id ∈ idsV v, g' id = g id) : concV g' v = concV g v := by
  cases v with
  | w y => exact concW_congr h
  | tu ws => simp only [concV]; rw [List.map_congr_left fun y hy => concW_congr fun id hid => h id (List.mem_flatMap.2 ⟨y, hy, hid⟩)]
  | pt id off => simp only [concV]; rw [h id (by simp [idsV])]
  | ep id sz i off => simp only [concV]; rw [h id (by simp [idsV])]
  | nl => rfl
  | un => rfl
  | no => rfl
theorem lt_of_heap {w : World} {n : Nat} {o : Obj} (h : w.heap[n]? = some o) : n < w.heap.size := by
  rcases Nat.lt_or_ge n w.heap.size with h1 | h1
  · exact h1
  · rw [Array.getElem?_eq_none h1] at h; cases h
theorem flat_length {P : Program} [RowL P R] (r : R) : (flat r).length = RowT.len r * P.cellsOf (RowT.ty r) := by
  obtain ⟨i, z, hi, _, _, _, _, hc⟩ := RowL.info (P := P) r
  have : P.cellsOf (RowT.ty r) = i.size := by simp [Program.cellsOf, hi]
  rw [this, RowL.len_eq (P := P), flat, List.length_map, List.length_flatten]
  generalize RowT.cel r = l at hc
  induction l with
  | nil => simp
  | cons c l ih =>
    rw [List.map_cons, List.sum_cons, List.length_cons, ih (fun c' h => hc c' (List.mem_cons_of_mem _ h)), hc c (List.mem_cons_self ..), Nat.add_mul, Nat.one_mul, Nat.add_comm]
theorem flat_pos {P : Program} [RowL P R] {r : R} {j : Nat} {u : Value} (h : (flat r)[j]? = some u) : 0 < RowT.len r := by
  rcases Nat.eq_zero_or_pos (RowT.len r) with h0 | h0
  · have := flat_length (P := P) r
    rw [h0, Nat.zero_mul] at this
    rw [List.eq_nil_of_length_eq_zero this] at h
    simp at h
  · exact h0
theorem BlkOK.lt {P : Program} [RowL P R] {g : Nat → Value} {w : World} {base id n : Nat} {b : Blk R} (h : BlkOK P g w base id b) (hb : HasB g id n b) : n < w.heap.size := by
  cases b with
  | rows k r =>
    cases k with
    | zero =>
      obtain ⟨A, cap, hg, _, _, hc⟩ := h
      obtain ⟨hb1, hp⟩ := hb
      have hl := flat_length (P := P) r
      obtain ⟨i, z, hi, _, _, hs, _⟩ := RowL.info (P := P) r
      have hsz : P.cellsOf (RowT.ty r) = i.size := by simp [Program.cellsOf, hi]
      have h0 : 0 < (flat r).length := by rw [hl, hsz]; exact Nat.mul_pos hp hs
      obtain ⟨ad, hA, hcell⟩ := hc 0 _ (List.getElem?_eq_getElem h0)
      have := World.block_lt_of_cell? w _ hcell
      rw [hg, hA] at hb1
      simp only [blkOf, Option.some.injEq] at hb1
      rw [← hb1]
      simpa [Addr.add] using this
    | succ k =>
      have h1 : blkOf (g id) = some n := hb
      rcases h.2 with ⟨hv, _⟩ | ⟨b, cap, cur, hv, _, hh, _⟩
      · rw [hv] at h1; simp [blkOf] at h1
      · rw [hv] at h1; simp only [blkOf, Option.some.injEq] at h1; rw [← h1]; exact lt_of_heap hh
  | box t cs =>
    obtain ⟨b, hv, hh, _⟩ := h
    have h1 : blkOf (g id) = some n := hb
    rw [hv] at h1; simp only [blkOf, Option.some.injEq] at h1; rw [← h1]; exact lt_of_heap hh
  | dead => exact hb.elim
theorem BlkOK.move {P : Program} [RowL P R] {g : Nat → Value} {w w' : World} {base id : Nat} {b : Blk R} (h : BlkOK P g w base id b) (hm : ∀ n, HasB g id n b → w'.heap[n]? = w.heap[n]?) : BlkOK P g w' base id b := by
  cases b with
  | rows k r =>
    cases k with
    | zero =>
      obtain ⟨A, cap, hg, h1, h2, hc⟩ := h
      refine ⟨A, cap, hg, h1, h2, fun j u hu => ?_⟩
      obtain ⟨ad, hA, hcell⟩ := hc j u hu
      refine ⟨ad, hA, ?_⟩
      have hn := hm ad.block ⟨by rw [hg, hA]; rfl, flat_pos (P := P) hu⟩
      have hbk : (ad.add j).block = ad.block := by unfold Addr.add; split <;> rfl
      rw [← hcell]; exact World.cell?_of_block (by rw [hbk]; exact hn)
    | succ k =>
      obtain ⟨h1, h2⟩ := h
      refine ⟨h1, ?_⟩
      rcases h2 with h2 | ⟨b, cap, cur, hv, hb, hh, h3⟩
      · exact .inl h2
      · exact .inr ⟨b, cap, cur, hv, hb, (hm b (by show blkOf (g id) = some b; rw [hv]; rfl)).trans hh, h3⟩
  | box t cs =>
    obtain ⟨b, hv, hh, h1⟩ := h
    exact ⟨b, hv, (hm b (by show blkOf (g id) = some b; rw [hv]; rfl)).trans hh, h1⟩
  | dead => trivial
theorem BlkOK.name {P : Program} {g g' : Nat → Value} {w : World} {base id : Nat} {b : Blk R} (h : BlkOK P g w base id b) (h0 : g' id = g id) (hm : ∀ j ∈ idsB b, g' j = g j) : BlkOK P g' w base id b := by
  cases b with
  | rows k r => cases k <;> simpa only [BlkOK, h0] using h
  | box t cs =>
    obtain ⟨b, hv, hh, h1⟩ := h
    refine ⟨b, h0.trans hv, by rw [concCs_congr hm]; exact hh, fun c hc => ?_⟩
    rw [concC_congr fun id hid => hm id (List.mem_flatMap.2 ⟨c, hc, hid⟩)]; exact h1 c hc
  | dead => trivial
theorem HasB.name {g g' : Nat → Value} {id n : Nat} {b : Blk R} (h0 : g' id = g id) : HasB g' id n b ↔ HasB g id n b := by
  cases b with
  | rows k r => cases k <;> simp only [HasB, h0]
  | box t cs => simp only [HasB, h0]
  | dead => exact Iff.rfl
theorem Fr.grown {w0 w w' : World} {L : Nat → Prop} {row : Option Nat} (h : Fr w0 L w) (hg : w.grownBy w' row) (hr : ∀ n, row = some n → w0.heap.size ≤ n ∨ L n) : Fr w0 L w' :=
  ⟨hg.os.trans h.os, hg.tape.trans h.tape, hg.output.trans h.output, Nat.le_trans h.size hg.size, fun k hk hl =>
    (hg.block k (Nat.lt_of_lt_of_le hk h.size) (fun e => by rcases hr k e.symm with h1 | h1; exact absurd hk (Nat.not_lt.2 h1); exact hl h1)).trans (h.block k hk hl)⟩
def upd (g : Nat → Value) (n : Nat) (v : Value) (id : Nat) : Value := if id = n then v else g id
theorem upd_same (g : Nat → Value) (n : Nat) (v : Value) : upd g n v n = v := by simp [upd]
theorem upd_other (g : Nat → Value) {n id : Nat} (v : Value) (h : id ≠ n) : upd g n v id = g id := by simp [upd, h]
section
variable {P : Program} [RowL P R] {w0 : World} {L : Nat → Prop} {g0 : Nat → Value} {hp0 : List (Blk R)} {nx : Nat} {hp : List (Nat × Blk R)} {g : Nat → Value} {w : World}
theorem HOK.lt (h : HOK P w0 L nx hp g w) {id n : Nat} {b : Blk R} (hb : get hp id = some b) (hn : HasB g id n b) : n < w.heap.size := (h.blk id b hb).lt hn
theorem HOK.drop (h : HOK P w0 L nx hp g w) {id : Nat} {b0 : Blk R} (hid : get hp id = some b0) : HOK P w0 L nx ((id, .dead) :: hp) g w := by
  have hx : ∀ i b, get ((id, .dead) :: hp) i = some b → b = .dead ∧ i = id ∨ get hp i = some b := by
    intro i b hb
    rw [get_cons] at hb
    split at hb
    · rename_i e; simp only [Option.some.injEq] at hb; exact .inl ⟨hb.symm, e.symm⟩
    · exact .inr hb
  refine ⟨fun i b hb j hj => ?_, fun i b hb => ?_, fun i b hb => ?_, fun i b i' b' n hb hb' hne hm hn => ?_, fun i b n hb hm hn => ?_, h.one, h.frame⟩
  · rcases hx i b hb with ⟨rfl, _⟩ | h1
    · simp [idsB] at hj
    · exact h.idB i b h1 j hj
  · rcases hx i b hb with ⟨_, rfl⟩ | h1
    · exact h.idH _ _ hid
    · exact h.idH i b h1
  · rcases hx i b hb with ⟨rfl, _⟩ | h1
    · trivial
    · exact h.blk i b h1
  · rcases hx i b hb with ⟨rfl, _⟩ | h1
    · exact hn.elim
    · rcases hx i' b' hb' with ⟨rfl, _⟩ | h2
      · exact fun h => h
      · exact h.sep i b i' b' n h1 h2 hne hm hn
  · rcases hx i b hb with ⟨rfl, _⟩ | h1
    · exact hn.elim
    · exact h.mutL i b n h1 hm hn
theorem HOK.add (h : HOK P w0 L nx hp g w) {b : Blk R} {v : Value} {w' : World} {row : Option Nat} (hg : w.grownBy w' row)
    (hrow : ∀ n, row = some n → (w0.heap.size ≤ n ∨ L n) ∧ ∀ id b', get hp id = some b' → ¬ HasB g id n b') (hids : ∀ j ∈ idsB b, j < nx)
    (hb : BlkOK P (upd g nx v) w' w0.heap.size nx b) (hn : ∀ n, HasB (upd g nx v) nx n b → w.heap.size ≤ n ∨ row = some n) (ho : v.oneCell' = true) : HOK P w0 L (nx + 1) ((nx, b) :: hp) (upd g nx v) w' := by
  have hx : ∀ i c, get ((nx, b) :: hp) i = some c → c = b ∧ i = nx ∨ get hp i = some c ∧ i < nx := by
    intro i c hc
    rw [get_cons] at hc
    split at hc
    · rename_i e; simp only [Option.some.injEq] at hc; exact .inl ⟨hc.symm, e.symm⟩
    · exact .inr ⟨hc, h.idH i c hc⟩
  have hu : ∀ i, i < nx → upd g nx v i = g i := fun i hi => upd_other g v (by omega)
  have hold : ∀ i c n, get hp i = some c → i < nx → HasB (upd g nx v) i n c → n < w.heap.size ∧ row ≠ some n := by
    intro i c n hc hi hh
    rw [HasB.name (hu i hi)] at hh
    exact ⟨h.lt hc hh, fun e => (hrow n e).2 i c hc hh⟩
  refine ⟨fun i c hc j hj => ?_, fun i c hc => ?_, fun i c hc => ?_, fun i c i' c' n hc hc' hne hm hh => ?_, fun i c n hc hm hh => ?_, fun i hi => ?_, h.frame.grown hg fun n e => (hrow n e).1⟩
  · rcases hx i c hc with ⟨rfl, _⟩ | ⟨h1, _⟩
    · have := hids j hj; omega
    · have := h.idB i c h1 j hj; omega
  · rcases hx i c hc with ⟨_, rfl⟩ | ⟨_, h1⟩ <;> omega
  · rcases hx i c hc with ⟨rfl, rfl⟩ | ⟨h1, h2⟩
    · exact hb
    · refine ((h.blk i c h1).name (hu i h2) fun j hj => hu j (h.idB i c h1 j hj)).move fun n hh => ?_
      obtain ⟨h3, h4⟩ := hold i c n h1 h2 hh
      exact hg.block n h3 fun e => h4 e.symm
  · rcases hx i c hc with ⟨rfl, rfl⟩ | ⟨h1, h2⟩
    · rcases hx i' c' hc' with ⟨rfl, rfl⟩ | ⟨h3, h4⟩
      · exact absurd rfl hne
      · intro hh'
        obtain ⟨h5, h6⟩ := hold i' c' n h3 h4 hh'
        rcases hn n hh with h7 | h7
        · omega
        · exact h6 h7
    · rcases hx i' c' hc' with ⟨rfl, rfl⟩ | ⟨h3, h4⟩
      · intro hh'
        obtain ⟨h5, h6⟩ := hold i c n h1 h2 hh
        rcases hn n hh' with h7 | h7
        · omega
        · exact h6 h7
      · rw [HasB.name (hu i h2)] at hh
        rw [HasB.name (hu i' h4)]
        exact h.sep i c i' c' n h1 h3 hne hm hh
  · rcases hx i c hc with ⟨rfl, rfl⟩ | ⟨h1, h2⟩
    · rcases hn n hh with h3 | h3
      · exact .inl (Nat.le_trans h.frame.size h3)
      · exact (hrow n h3).1
    · rw [HasB.name (hu i h2)] at hh
      exact h.mutL i c n h1 hm hh
  · rcases Nat.lt_or_ge i nx with h1 | h1
    · rw [hu i h1]; exact h.one i h1
    · rw [show i = nx by omega, upd_same]; exact ho
theorem HOK.turn (h : HOK P w0 L nx hp g w) {id : Nat} {b b' : Blk R} {w' : World} (hid : get hp id = some b) (hm : b.mut) (hm' : b'.mut) (hg : w.grownBy w' (blkOf (g id)))
    (hids : ∀ j ∈ idsB b', j < nx) (hb : BlkOK P g w' w0.heap.size id b') (hh : ∀ n, HasB g id n b' ↔ HasB g id n b) (hr : ∀ n, blkOf (g id) = some n → HasB g id n b) : HOK P w0 L nx ((id, b') :: hp) g w' := by
  have hx : ∀ i c, get ((id, b') :: hp) i = some c → c = b' ∧ i = id ∨ get hp i = some c ∧ i ≠ id := by
    intro i c hc
    rw [get_cons] at hc
    split at hc
    · rename_i e; simp only [Option.some.injEq] at hc; exact .inl ⟨hc.symm, e.symm⟩
    · rename_i e; exact .inr ⟨hc, fun e' => e e'.symm⟩
  refine ⟨fun i c hc j hj => ?_, fun i c hc => ?_, fun i c hc => ?_, fun i c i' c' n hc hc' hne hmc hn => ?_, fun i c n hc hmc hn => ?_, h.one, h.frame.grown hg fun n e => h.mutL id b n hid hm (hr n e)⟩
  · rcases hx i c hc with ⟨rfl, _⟩ | ⟨h1, _⟩
    · exact hids j hj
    · exact h.idB i c h1 j hj
  · rcases hx i c hc with ⟨_, rfl⟩ | ⟨h1, _⟩
    · exact h.idH _ _ hid
    · exact h.idH i c h1
  · rcases hx i c hc with ⟨rfl, rfl⟩ | ⟨h1, h2⟩
    · exact hb
    · exact (h.blk i c h1).move fun n hn => hg.block n (h.lt h1 hn) fun e => h.sep id b i c n hid h1 (fun e => h2 e.symm) hm (hr n e.symm) hn
  · rcases hx i c hc with ⟨rfl, rfl⟩ | ⟨h1, h2⟩
    · rcases hx i' c' hc' with ⟨rfl, rfl⟩ | ⟨h3, h4⟩
      · exact absurd rfl hne
      · exact h.sep i b i' c' n hid h3 hne hm ((hh n).1 hn)
    · rcases hx i' c' hc' with ⟨rfl, rfl⟩ | ⟨h3, h4⟩
      · intro hn'
        exact h.sep i c i' b n h1 hid hne hmc hn ((hh n).1 hn')
      · exact h.sep i c i' c' n h1 h3 hne hmc hn
  · rcases hx i c hc with ⟨rfl, rfl⟩ | ⟨h1, h2⟩
    · exact h.mutL i b n hid hm ((hh n).1 hn)
    · exact h.mutL i c n h1 hmc hn
theorem HOK.grow (h : HOK P w0 L nx hp g w) {w' : World} (hg : w.grownBy w' none) : HOK P w0 L nx hp g w' :=
  ⟨h.idB, h.idH, fun i c hc => (h.blk i c hc).move fun n hn => hg.block n (h.lt hc hn) (by simp), h.sep, h.mutL, h.one, h.frame.grown hg (by simp)⟩
variable {st st' : St R} {a : Act}
theorem Inv.put (h : Inv P w0 L g0 hp0 st g a w) {d : Option Nat} {v : V} {c : Value} (hp : st.put d v = some st') (hc : v ≠ .no → c = concV g v) (hi : ∀ id ∈ idsV v, id < st.nx) (he : EpOK P st.hp v) : Inv P w0 L g0 hp0 st' g (a.put d c) w := by
  cases d with
  | none => simp only [St.put, Option.some.injEq] at hp; subst hp; exact h
  | some d =>
    simp only [St.put] at hp
    cases hb : Nat.blt d st.nt with
    | false => rw [hb] at hp; simp at hp
    | true =>
      rw [hb] at hp
      simp only [cond_true, Option.some.injEq] at hp
      subst hp
      have hd : d < a.tmps.size := by
        have : d + 1 ≤ st.nt := by simpa [Nat.blt] using hb
        rw [h.size]; omega
      refine ⟨h.defers, by simpa [Act.put] using h.size, fun t u hu hno => ?_, fun t u hu => ?_, fun t u hu => ?_, h.keep, h.args, h.na, h.hpna, h.heap⟩
      · rw [get_cons] at hu
        split at hu
        · rename_i e; simp only [Option.some.injEq] at hu; subst hu; subst e
          simp only [Act.put, Array.getElem?_setIfInBounds, if_true, if_pos hd]
          rw [hc hno]
        · rename_i e
          simp only [Act.put, Array.getElem?_setIfInBounds, if_neg e]
          exact h.tm t u hu hno
      · rw [get_cons] at hu
        split at hu
        · rename_i e; simp only [Option.some.injEq] at hu; subst hu; exact hi
        · exact h.idT t u hu
      · rw [get_cons] at hu
        split at hu
        · rename_i e; simp only [Option.some.injEq] at hu; subst hu; exact he
        · exact h.ep t u hu
omit [RowL P R] in
theorem Inv.onto (h : Inv P w0 L g0 hp0 st g a w) {nx' : Nat} {hp' : List (Nat × Blk R)} {g' : Nat → Value} {w' : World} (hh : HOK P w0 L nx' hp' g' w') (hn : st.nx ≤ nx') (hg : ∀ i, i < st.nx → g' i = g i) (hs : Same st.nx st.hp hp') :
    Inv P w0 L g0 hp0 { st with nx := nx', hp := hp' } g' a w' :=
  ⟨h.defers, h.size, fun t v hv hno => by rw [concV_congr fun id hid => hg id (h.idT t v hv id hid)]; exact h.tm t v hv hno, fun t v hv id hid => Nat.lt_of_lt_of_le (h.idT t v hv id hid) hn,
    fun t v hv => (h.ep t v hv).same hs (h.idT t v hv), fun i b0 hb0 => by
      obtain ⟨b, e1, e2, e3⟩ := h.keep i b0 hb0
      obtain ⟨b', f1, f2⟩ := hs.2 i b (h.heap.idH i b e1) e1 e3
      exact ⟨b', f1, e2.trans f2, e3.same f2⟩, fun id hid => (hg id (Nat.lt_of_lt_of_le hid h.na)).trans (h.args id hid), Nat.le_trans h.na hn, h.hpna, hh⟩
theorem Inv.ev (h : Inv P w0 L g0 hp0 st g a w) {x : Operand} (hno : AI.ev st x ≠ .no) : a.eval x = concV g (AI.ev st x) ∧ (∀ id ∈ idsV (AI.ev st x), id < st.nx) ∧ EpOK P st.hp (AI.ev st x) := by
  cases x with
  | tmp t =>
    simp only [AI.ev, St.v] at *
    cases hv : get st.tm t with
    | none => rw [hv] at hno; simp at hno
    | some v =>
      rw [hv] at hno
      simp only [Option.getD_some] at *
      refine ⟨?_, h.idT t v hv, h.ep t v hv⟩
      have := h.tm t v hv hno
      simp only [Act.eval, Array.getD_eq_getD_getElem?, this, Option.getD_some]
  | const v =>
    cases v <;> simp only [AI.ev] at * <;> first | exact absurd rfl hno | skip
    case bool b => exact ⟨rfl, by simp [idsV, idsW, idsC], trivial⟩
    case int k n => exact ⟨rfl, by simp [idsV, idsW, idsC], trivial⟩
    case slice A n c =>
      cases A with
      | some _ => exact absurd rfl hno
      | none =>
        cases n with
        | succ _ => exact absurd rfl hno
        | zero => cases c with
          | succ _ => exact absurd rfl hno
          | zero => exact ⟨rfl, by simp [idsV], trivial⟩
  | global _ => exact absurd rfl hno
  | func _ => exact absurd rfl hno
structure Tch (g : Nat → Value) (l : List Nat) (w w' : World) : Prop where
  os : w'.os = w.os
  tape : w'.tape = w.tape
  output : w'.output = w.output
  size : w.heap.size ≤ w'.heap.size
  block : ∀ k, k < w.heap.size → (∀ id ∈ l, blkOf (g id) ≠ some k) → w'.heap[k]? = w.heap[k]?
theorem Tch.refl (g : Nat → Value) (l : List Nat) (w : World) : Tch g l w w := ⟨rfl, rfl, rfl, Nat.le_refl _, fun _ _ _ => rfl⟩
theorem Tch.grown {g : Nat → Value} {l : List Nat} {w w' : World} {row : Option Nat} (h : w.grownBy w' row) (hr : ∀ n, row = some n → ∃ id ∈ l, blkOf (g id) = some n) : Tch g l w w' :=
  ⟨h.os, h.tape, h.output, h.size, fun k hk hl => h.block k hk fun e => by obtain ⟨id, h1, h2⟩ := hr k e.symm; exact hl id h1 h2⟩
def Ran (P : Program) (a : Act) (w : World) (o : Oper) (v : Value) (w' : World) : Prop := (execOp a.eval o).run P w = .ok (.value v) w' ∨ (execOp a.eval o).run P w = .ok .skip w' ∧ v = undef
def LdOK (P : Program) (st : St R) (g : Nat → Value) (base : Nat) (o : Oper) (w1 : World) : Prop := ∀ id ∈ loads st o, ∀ b, get st.hp id = some b → BlkOK P g w1 base id b
def Eff (P : Program) (w0 : World) (L : Nat → Prop) (g0 : Nat → Value) (hp0 : List (Blk R)) (st st' : St R) (g : Nat → Value) (a : Act) (w : World) (o : Oper) : Prop :=
  ∃ g' v w', Ran P a w o v w' ∧ Inv P w0 L g0 hp0 st' g' (a.put o.dst v) w' ∧ (∀ i, i < st.nx → g' i = g i) ∧ Tch g (writes st o) w w' ∧
    (quietOp o.op = true → g' = g ∧ ∀ w1, LdOK P st g w0.heap.size o w1 → (execOp a.eval o).run P w1 = .ok (.value v) w1)
omit [RowL P R] in
theorem eff_q {o : Oper} {v : Value} (hI : Inv P w0 L g0 hp0 st' g (a.put o.dst v) w) (hl : LdOK P st g w0.heap.size o w) (hrun : ∀ w1, LdOK P st g w0.heap.size o w1 → (execOp a.eval o).run P w1 = .ok (.value v) w1) : Eff P w0 L g0 hp0 st st' g a w o :=
  ⟨g, v, w, .inl (hrun w hl), hI, fun _ _ => rfl, Tch.refl _ _ _, fun _ => ⟨rfl, hrun⟩⟩
omit [RowL P R] in
theorem eff_n {o : Oper} {g' : Nat → Value} {v : Value} {w' : World} (hq : quietOp o.op = false) (hrun : Ran P a w o v w') (hI : Inv P w0 L g0 hp0 st' g' (a.put o.dst v) w') (hg : ∀ i, i < st.nx → g' i = g i) (ht : Tch g (writes st o) w w') : Eff P w0 L g0 hp0 st st' g a w o :=
  ⟨g', v, w', hrun, hI, hg, ht, fun h => by rw [hq] at h; simp at h⟩
omit [RowL P R] in
theorem ld_none {o : Oper} (h : ∀ t x, o.op ≠ .load t x) (w1 : World) : LdOK P st g w0.heap.size o w1 := by
  intro id hid
  unfold loads at hid
  split at hid
  · rename_i t x hop; exact absurd hop (h t x)
  · simp at hid
omit [RowL P R] in
theorem ld_here (h : Inv P w0 L g0 hp0 st g a w) (o : Oper) : LdOK P st g w0.heap.size o w := fun id _ b hb => h.heap.blk id b hb
omit [RowL P R] in
theorem Eff.wp {o : Oper} {K : Act → World → Prop} {Q : Exit → Act → World → Prop} (h : Eff P w0 L g0 hp0 st st' g a w o) (hK : ∀ g' a' w', Inv P w0 L g0 hp0 st' g' a' w' → K a' w') : o.wp P a w K Q := by
  obtain ⟨g', v, w', hr, hI, _, _, _⟩ := h
  unfold Oper.wp
  rcases hr with hr | ⟨hr, rfl⟩
  · rw [hr]; exact hK g' _ _ hI
  · rw [hr]; exact hK g' _ _ hI
end
end
end Go.Proofs.Ytmfgajbkcnlkcaa.AI
namespace Go.Proofs.Ytmfgajbkcnlkcaa.AI
set_option linter.all false
open Go Go.RowKit
section
variable {R : Type} [RowT R] {P : Program} [RowL P R] {w0 : World} {L : Nat → Prop} {g0 : Nat → Value} {hp0 : List (Blk R)} {st st' : St R} {g : Nat → Value} {a : Act} {w w' : World} {o : Oper}
variable {K : Act → World → Prop} {Q : Exit → Act → World → Prop} {ts : List Tst}
theorem oneC {nx : Nat} (h1 : ∀ i, i < nx → (g i).oneCell' = true) {c : C} (hi : ∀ id ∈ idsC c, id < nx) : (conc g c).oneCell' = true := by
  cases c <;> simp only [conc]
  case sc v => cases v <;> rfl
  case kb => rfl
  case bo => rfl
  case nb => rfl
  case rw id => exact h1 id (hi id (by simp [idsC]))
theorem cells_one {v : Value} (h : v.oneCell' = true) : v.cells = #[v] := by cases v <;> first | rfl | (simp [Value.oneCell'] at h)
theorem cellsW {nx : Nat} (h1 : ∀ i, i < nx → (g i).oneCell' = true) {y : W} (hi : ∀ id ∈ idsW y, id < nx) : (concW g y).cells = (y.cells.map (conc g)).toArray := by
  cases y with
  | c x => simp only [concW, W.cells, List.map_cons, List.map_nil]; exact cells_one (oneC h1 hi)
  | ag xs => rfl
theorem idsW_cells (y : W) : y.cells.flatMap idsC = idsW y := by cases y <;> simp [W.cells, idsW]
theorem Inv.newRows (h : Inv P w0 L g0 hp0 st g a w) {d : Option Nat} {r : R} (hr : AI.newRows st d r = some st') {c : Value} {row : Option Nat} (hg : w.grownBy w' row)
    (hrow : ∀ n, row = some n → (w0.heap.size ≤ n ∨ L n) ∧ ∀ id b', get st.hp id = some b' → ¬ HasB g id n b')
    (own : w'.ownsRow w0.heap.size (RowT.ty r) (P.cellsOf (RowT.ty r)) c (RowT.len r) (flat r)) (fresh : ∀ n, blkOf c = some n → w.heap.size ≤ n ∨ row = some n) : ∃ g', Inv P w0 L g0 hp0 st' g' (a.put d c) w' ∧ ∀ i, i < st.nx → g' i = g i := by
  refine ⟨upd g st.nx c, ?_, fun i hi => upd_other g c (by omega)⟩
  have ho : c.oneCell' = true := by rcases own.2 with ⟨rfl, _⟩ | ⟨_, _, _, rfl, _⟩ <;> rfl
  have hh := h.heap.add (b := Blk.rows 2 r) (v := c) hg hrow (by simp [idsB]) (by simpa [BlkOK, upd_same] using own) (fun n hn => fresh n (by simpa [HasB, upd_same] using hn)) ho
  have h1 := h.onto hh (Nat.le_succ _) (fun i hi => upd_other g c (by omega)) (Same.cons (.inl (Nat.le_refl _)))
  exact h1.put hr (fun _ => by simp [concV, concW, conc, upd_same]) (by simp [idsV, idsW, idsC]) trivial
theorem Inv.newBox (h : Inv P w0 L g0 hp0 st g a w) {d : Option Nat} {t : TypeId} {cs : List C} (hr : AI.newBox st d t cs = some st') (hi : ∀ id ∈ cs.flatMap idsC, id < st.nx) {v : Value} (hv : v.cells = (cs.map (conc g)).toArray) :
    ∃ g', Inv P w0 L g0 hp0 st' g' (a.put d (.pointer (some ⟨w.heap.size, 0, none⟩))) (w.alloc (.cells v.cells t)) ∧ ∀ i, i < st.nx → g' i = g i := by
  refine ⟨upd g st.nx (.pointer (some ⟨w.heap.size, 0, none⟩)), ?_, fun i hi => upd_other g _ (by omega)⟩
  have hc : ∀ id ∈ cs.flatMap idsC, upd g st.nx (.pointer (some ⟨w.heap.size, 0, none⟩)) id = g id := fun id hid => upd_other g _ (Nat.ne_of_lt (hi id hid))
  have hh := h.heap.add (b := (Blk.box t cs : Blk R)) (v := .pointer (some ⟨w.heap.size, 0, none⟩)) (row := none) (World.grownBy_alloc w (.cells v.cells t) none) (by simp) (by simpa [idsB] using hi)
    ⟨w.heap.size, upd_same _ _ _, by rw [concCs_congr hc, ← hv]; exact heap_alloc_new w _, fun c hc' => by
      rw [concC_congr fun id hid => hc id (List.mem_flatMap.2 ⟨c, hc', hid⟩)]
      exact oneC h.heap.one fun id hid => hi id (List.mem_flatMap.2 ⟨c, hc', hid⟩)⟩
    (fun n hn => .inl (by simp [HasB, upd_same, blkOf] at hn; omega)) rfl
  have h1 := h.onto hh (Nat.le_succ _) (fun i hi => upd_other g _ (by omega)) (Same.cons (.inl (Nat.le_refl _)))
  exact h1.put hr (fun _ => by simp [concV, upd_same]) (by simp [idsV]) trivial
theorem nil_own {t : TypeId} {r : R} (h : RowT.nil t = some r) : w.ownsRow w0.heap.size (RowT.ty r) (P.cellsOf (RowT.ty r)) (.slice none 0 0) (RowT.len r) (flat r) := by
  obtain ⟨h1, _⟩ := RowL.nil_eq (P := P) t r h
  have h2 : RowT.len r = 0 := by rw [RowL.len_eq (P := P), h1]; rfl
  have h3 : flat r = [] := by simp [flat, h1]
  rw [h2, h3]; exact World.ownsRow_nil w _ _ _
theorem grown_none (w : World) : w.grownBy w none := ⟨rfl, rfl, rfl, Nat.le_refl _, fun _ _ _ => rfl⟩
theorem binI_run {op : BinOp} {k : IntKind} {x y : Int} {c : C} (h : binI op k x y = some (ts, c)) (ht : ∀ t ∈ ts, t.p) (t : TypeId) : (binOp op t (.int k x) (.int k y)).run P w = .ok (conc g c) w ∧ idsC c = [] := by
  cases op <;> simp only [binI, Option.some.injEq, Prod.mk.injEq, reduceCtorEq] at h <;> obtain ⟨rfl, rfl⟩ := h <;> simp [binOp, Op.intArith, Op.intDiv, Op.intCmp, conc, Sc.v, idsC, wr_eq]
  case eql => rw [Bool.eq_iff_iff]; simp
  case neq => rw [Bool.eq_iff_iff]; simp
  · have := ht ⟨y ≠ 0, inferInstance⟩ (by simp); simp [show y ≠ 0 from this]
  · have := ht ⟨y ≠ 0, inferInstance⟩ (by simp); simp [show y ≠ 0 from this]
theorem zeroC_ok : ∀ (vs : List Value) (fs : List Field) (nx nx' : Nat) (hp es : List (Nat × Blk R)) (cs : List C) (g : Nat → Value), HOK P w0 L nx hp g w → zeroC P nx vs fs = some (nx', cs, es) →
    ∃ g', HOK P w0 L nx' (es ++ hp) g' w ∧ nx ≤ nx' ∧ (∀ i, i < nx → g' i = g i) ∧ cs.map (conc g') = vs ∧ (∀ id ∈ cs.flatMap idsC, id < nx') ∧ Same nx hp (es ++ hp)
  | [], fs, nx, nx', hp, es, cs, g, h, hz => by
    cases fs with
    | cons f fs => simp [zeroC] at hz
    | nil => simp only [zeroC, Option.some.injEq, Prod.mk.injEq] at hz; obtain ⟨rfl, rfl, rfl⟩ := hz; exact ⟨g, h, Nat.le_refl _, fun _ _ => rfl, rfl, by simp, Same.refl _ _⟩
  | v :: vs, fs, nx, nx', hp, es, cs, g, h, hz => by
    cases fs with
    | nil => cases v <;> first | (simp [zeroC] at hz; done) | (rename_i A n c; cases A <;> first | (simp [zeroC] at hz; done) | (cases n <;> first | (simp [zeroC] at hz; done) | (cases c <;> simp [zeroC] at hz)))
    | cons f fs =>
      cases v <;> first | (simp [zeroC] at hz; done) | skip
      case bool b =>
        simp only [zeroC] at hz
        split at hz
        · rename_i nx1 cs1 es1 h1
          simp only [Option.some.injEq, Prod.mk.injEq] at hz; obtain ⟨rfl, rfl, rfl⟩ := hz
          obtain ⟨g', h2, h3, h4, h5, h6, h7⟩ := zeroC_ok vs fs nx _ hp _ _ g h h1
          exact ⟨g', h2, h3, h4, by rw [List.map_cons, h5]; rfl, by simpa [idsC] using h6, h7⟩
        · simp at hz
      case int k n =>
        simp only [zeroC] at hz
        split at hz
        · rename_i nx1 cs1 es1 h1
          simp only [Option.some.injEq, Prod.mk.injEq] at hz; obtain ⟨rfl, rfl, rfl⟩ := hz
          obtain ⟨g', h2, h3, h4, h5, h6, h7⟩ := zeroC_ok vs fs nx _ hp _ _ g h h1
          exact ⟨g', h2, h3, h4, by rw [List.map_cons, h5]; rfl, by simpa [idsC] using h6, h7⟩
        · simp at hz
      case slice A n c =>
        cases A with
        | some _ => simp [zeroC] at hz
        | none => cases n with
          | succ _ => simp [zeroC] at hz
          | zero => cases c with
            | succ _ => simp [zeroC] at hz
            | zero =>
              simp only [zeroC] at hz
              split at hz
              · split at hz
                · rename_i e he r nx1 cs1 es1 hr h1
                  simp only [Option.some.injEq, Prod.mk.injEq] at hz; obtain ⟨rfl, rfl, rfl⟩ := hz
                  have h0 := h.add (b := Blk.rows 2 r) (v := .slice none 0 0) (grown_none w) (row := none) (by simp) (by simp [idsB]) (by simpa [BlkOK, upd_same] using nil_own (P := P) (w0 := w0) (w := w) hr) (fun n hn => by simp [HasB, upd_same, blkOf] at hn) rfl
                  obtain ⟨g', h2, h3, h4, h5, h6, h7⟩ := zeroC_ok vs fs (nx + 1) _ _ _ _ _ h0 h1
                  refine ⟨g', by rw [List.append_assoc]; exact h2, by omega, fun i hi => (h4 i (by omega)).trans (upd_other g _ (by omega)), ?_, ?_, by rw [List.append_assoc]; exact (Same.cons (.inl (Nat.le_refl _))).trans h7 (Nat.le_succ _)⟩
                  · rw [List.map_cons, h5]; simp only [conc]; rw [h4 nx (by omega), upd_same]
                  · intro id hid
                    simp only [List.flatMap_cons, idsC, List.singleton_append, List.mem_cons] at hid
                    rcases hid with rfl | hid
                    · omega
                    · exact h6 id hid
                · simp at hz
              · simp at hz
theorem zeroOf_ok {t : TypeId} {cs : List C} (h : Inv P w0 L g0 hp0 st g a w) (hz : zeroOf P t st = some (st', cs)) : ∃ g' fs i z, Inv P w0 L g0 hp0 st' g' a w ∧ P.underlying t = some (.struct fs) ∧ P.info? t = some i ∧ i.zero = some (.agg z) ∧ cs.map (conc g') = z.toList ∧
    (∀ id ∈ cs.flatMap idsC, id < st'.nx) ∧ (∀ x, AI.ev st' x = AI.ev st x) ∧ (∀ i, i < st.nx → g' i = g i) ∧ st.nx ≤ st'.nx := by
  unfold zeroOf at hz
  split at hz
  · rename_i fs i hu hi
    split at hz
    · rename_i z hiz
      split at hz
      · rename_i nx' cs' es h1
        simp only [Option.some.injEq, Prod.mk.injEq] at hz; obtain ⟨rfl, rfl⟩ := hz
        obtain ⟨g', h2, h3, h4, h5, h6, h7⟩ := zeroC_ok _ _ _ _ _ _ _ g h.heap h1
        exact ⟨g', fs, i, z, h.onto h2 h3 h4 h7, hu, hi, hiz, h5, h6, fun x => by cases x <;> rfl, h4, h3⟩
      · simp at hz
    · simp at hz
  · simp at hz
theorem run_zero {t : TypeId} {i : TypeInfo} {z : Value} (hi : P.info? t = some i) (hz : i.zero = some z) : (zeroValue t).run P w = .ok z w := by simp [zeroValue, typeInfo, hi, hz]
theorem wp_alloc {t : TypeId} (hop : o.op = .alloc t) (h : Inv P w0 L g0 hp0 st g a w) {cs : List C} {st1 : St R} (hz : zeroOf P t st = some (st1, cs)) (hp : AI.newBox st1 o.dst t cs = some st') : Eff P w0 L g0 hp0 st st' g a w o := by
  obtain ⟨g1, fs, i, z, h1, hu, hi, hiz, hc, hids, _, hg1, hnx⟩ := zeroOf_ok h hz
  obtain ⟨g', h2, hg2⟩ := h1.newBox (v := .agg z) hp hids (by rw [hc]; simp [Value.cells])
  refine eff_n (w' := w.alloc (.cells (Value.agg z).cells t)) (by rw [hop]; rfl) (.inl ?_) h2 (fun i hi => (hg2 i (by omega)).trans (hg1 i hi)) (Tch.grown (World.grownBy_alloc w _ none) (by simp))
  unfold execOp; rw [hop]
  simp [Instr.alloc, run_zero hi hiz, newVar, newRow]
theorem wp_box {t : TypeId} {x : Operand} (hop : o.op = .box t x) (h : Inv P w0 L g0 hp0 st g a w) {y : W} (hy : AI.ev st x = .w y) (hp : AI.newBox st o.dst t y.cells = some st') : Eff P w0 L g0 hp0 st st' g a w o := by
  obtain ⟨he, hi, _⟩ := h.ev (x := x) (by rw [hy]; simp)
  rw [hy] at he hi
  obtain ⟨g', h2, hg2⟩ := h.newBox (v := concW g y) hp (by rw [idsW_cells]; exact hi) (cellsW h.heap.one hi)
  refine eff_n (w' := w.alloc (.cells (concW g y).cells t)) (by rw [hop]; rfl) (.inl ?_) h2 hg2 (Tch.grown (World.grownBy_alloc w _ none) (by simp))
  unfold execOp; rw [hop]
  simp [Instr.box, newVar, newRow, he, concV]
end
end Go.Proofs.Ytmfgajbkcnlkcaa.AI
namespace Go.Proofs.Ytmfgajbkcnlkcaa.AI
set_option linter.all false
open Go Go.RowKit
theorem nth_eq {α : Type} : ∀ (l : List α) (n : Nat), nth l n = l[n]?
  | [], _ => by simp [nth]
  | x :: l, 0 => by simp [nth]
  | x :: l, n + 1 => by simp [nth, nth_eq l n]
theorem setAt_eq {α : Type} : ∀ (l : List α) (n : Nat) (y : α), setAt l n y = l.set n y
  | [], _, _ => by simp [setAt]
  | x :: l, 0, y => by simp [setAt]
  | x :: l, n + 1, y => by simp [setAt, setAt_eq l n y]
theorem beq_true {a b : Nat} (h : Nat.beq a b = true) : a = b := Nat.eq_of_beq_eq_true h
theorem flatten_at {α : Type} {n : Nat} : ∀ (l : List (List α)), (∀ c ∈ l, c.length = n) → ∀ (i j : Nat), j < n → l.flatten[i * n + j]? = (l[i]?).bind (·[j]?)
  | [], _, i, j, _ => by simp
  | c :: l, h, i, j, hj => by
    have hc := h c (List.mem_cons_self ..)
    cases i with
    | zero =>
      rw [List.flatten_cons, Nat.zero_mul, Nat.zero_add, List.getElem?_append_left (by omega)]; rfl
    | succ i =>
      rw [List.flatten_cons, Nat.succ_mul, List.getElem?_append_right (by omega), show i * n + n + j - c.length = i * n + j by omega, flatten_at l (fun c' h' => h c' (List.mem_cons_of_mem _ h')) i j hj]
      rfl
theorem add_add (a : Addr) (x y : Nat) : (a.add x).add y = a.add (x + y) := by
  unfold Addr.add
  by_cases h1 : x = 0 <;> by_cases h2 : y = 0 <;> simp [h1, h2, Nat.add_assoc]
theorem add_lit (b o n : Nat) : (⟨b, o, none⟩ : Addr).add n = ⟨b, o + n, none⟩ := by
  unfold Addr.add; split <;> simp_all
section
variable {R : Type} [RowT R] {P : Program} [RowL P R] {w0 : World} {L : Nat → Prop} {g0 : Nat → Value} {hp0 : List (Blk R)} {st st' : St R} {g : Nat → Value} {a : Act} {w w' : World} {o : Oper}
variable {K : Act → World → Prop} {Q : Exit → Act → World → Prop} {ts : List Tst}
theorem sz_pos (P : Program) [RowL P R] (r : R) : 0 < P.cellsOf (RowT.ty r) := by
  obtain ⟨i, z, hi, _, _, hs, _⟩ := RowL.info (P := P) r
  simpa [Program.cellsOf, hi] using hs
theorem cel_len (P : Program) [RowL P R] {r : R} {c : List Sc} (hc : c ∈ RowT.cel r) : c.length = P.cellsOf (RowT.ty r) := by
  obtain ⟨i, z, hi, _, _, _, _, h⟩ := RowL.info (P := P) r
  simpa [Program.cellsOf, hi] using h c hc
theorem elt_mem (P : Program) [RowL P R] {r : R} {i : Nat} (hi : i < RowT.len r) : RowT.elt r i ∈ RowT.cel r := List.mem_of_getElem? (RowL.elt_eq (P := P) r i hi)
theorem flat_at (P : Program) [RowL P R] {r : R} {i j : Nat} (hi : i < RowT.len r) (hj : j < P.cellsOf (RowT.ty r)) : (flat r)[i * P.cellsOf (RowT.ty r) + j]? = ((RowT.elt r i)[j]?).map Sc.v := by
  rw [flat, List.getElem?_map, flatten_at _ (fun c hc => cel_len P hc) i j hj, RowL.elt_eq (P := P) r i hi]; rfl
theorem elt_len (P : Program) [RowL P R] {r : R} {i : Nat} (hi : i < RowT.len r) : (RowT.elt r i).length = P.cellsOf (RowT.ty r) := cel_len P (elt_mem P hi)
theorem rowCell {id k : Nat} {r : R} {base : Nat} (h : BlkOK P g w base id (.rows k r)) (hp : 0 < RowT.len r) : ∃ ad n cap, g id = .slice (some ad) n cap ∧ n = RowT.len r ∧ ∀ j u, (flat r)[j]? = some u → w.cell? (ad.add j) = some u := by
  cases k with
  | zero =>
    obtain ⟨A, cap, hg, _, _, hc⟩ := h
    have h0 : 0 < (flat r).length := by rw [flat_length (P := P)]; exact Nat.mul_pos hp (sz_pos P r)
    obtain ⟨ad, hA, _⟩ := hc 0 _ (List.getElem?_eq_getElem h0)
    refine ⟨ad, _, cap, by rw [hg, hA], rfl, fun j u hu => ?_⟩
    obtain ⟨ad', hA', hcell⟩ := hc j u hu
    rw [hA] at hA'; injection hA' with e; subst e; exact hcell
  | succ k =>
    rcases h.2 with ⟨_, h0⟩ | ⟨b, cap, cur, hv, _, hh, _, _, _, ht⟩
    · omega
    · refine ⟨⟨b, 0, none⟩, _, cap, hv, rfl, fun j u hu => ?_⟩
      rw [add_lit, cell_of_row w b _ cur _ _ hh]
      rw [← ht, List.getElem?_take] at hu
      split at hu
      · simpa using hu
      · simp at hu
theorem info_of {t : TypeId} {d : TypeDesc} (h : P.underlying t = some d) : ∃ i, P.info? t = some i := by
  unfold Program.underlying at h
  cases hi : P.info? t with
  | none => rw [hi] at h; simp at h
  | some i => exact ⟨i, rfl⟩
theorem run_size {t : TypeId} {i : TypeInfo} (h : P.info? t = some i) : (sizeOf t).run P w = .ok (P.cellsOf t) w := by
  simp [sizeOf, typeInfo, h, Program.cellsOf]
theorem run_isAgg_s {t : TypeId} {fs : Array Field} (h : P.underlying t = some (.struct fs)) : (isAgg t).run P w = .ok true w := by
  simp [isAgg, run_underlying h]
theorem isStruct_of {t : TypeId} (h : isStruct P t = true) : ∃ fs, P.underlying t = some (.struct fs) := by
  unfold isStruct at h
  split at h
  · rename_i fs hu; exact ⟨fs, hu⟩
  · simp at h
theorem isOne_of {t : TypeId} (h : isOne P t = true) : P.cellsOf t = 1 ∧ (isAgg t).run P w = .ok false w ∧ ∃ i, P.info? t = some i := by
  unfold isOne at h
  simp only [Bool.and_eq_true] at h
  obtain ⟨h1, h2⟩ := h
  refine ⟨beq_true h1, ?_⟩
  split at h2 <;> first | (simp at h2; done) | (rename_i hu; exact ⟨by simp [isAgg, run_underlying hu], info_of hu⟩)
theorem run_loadStruct {t : TypeId} {fs : Array Field} (hu : P.underlying t = some (.struct fs)) {ad : Addr} {cs : List Value} (hl : P.cellsOf t = cs.length) (h : ∀ j v, cs[j]? = some v → w.cell? (ad.add j) = some v) :
    (Instr.loadAt t (.pointer (some ad))).run P w = .ok (.agg cs.toArray) w := by
  obtain ⟨i, hi⟩ := info_of hu
  simp [Instr.loadAt, Instr.sureAddr, loadVar, run_isAgg_s hu, run_size hi, hl, run_loadCells_list w ad cs h]
theorem run_loadOne {t : TypeId} (h1 : isOne P t = true) {ad : Addr} {v : Value} (h : w.cell? ad = some v) : (Instr.loadAt t (.pointer (some ad))).run P w = .ok v w := by
  obtain ⟨_, h2, _⟩ := isOne_of (P := P) (w := w) h1
  simp [Instr.loadAt, Instr.sureAddr, loadVar, h2, run_load, h]
theorem wp_load {t : TypeId} {x : Operand} (hop : o.op = .load t x) (h : Inv P w0 L g0 hp0 st g a w) (hp : pop P o st = some (ts, st')) : Eff P w0 L g0 hp0 st st' g a w o := by
  unfold pop at hp
  rw [hop] at hp
  dsimp only at hp
  have hex : execOp a.eval o = (do pure (Next.value (← Instr.loadAt t (a.eval x)))) := by unfold execOp; rw [hop]
  split at hp
  · -- a variable
    rename_i id off hv
    obtain ⟨he, hi, _⟩ := h.ev (x := x) (by rw [hv]; simp)
    rw [hv] at he hi
    split at hp
    · rename_i t' cs hb
      obtain ⟨b, hg, _, h1⟩ := h.heap.blk _ _ hb
      have hld : ∀ w1, LdOK P st g w0.heap.size o w1 → BlkOK P g w1 w0.heap.size id (.box t' cs : Blk R) := fun w1 hw1 => hw1 id (by simp [loads, hop, hv, idOf]) _ hb
      have he' : a.eval x = .pointer (some ⟨b, off, none⟩) := by rw [he]; simp only [concV, hg]
      cases hc : (isStruct P t && Nat.beq off 0 && Nat.beq t t' && Nat.beq (P.cellsOf t) cs.length) with
      | true =>
        rw [hc] at hp
        simp only [cond_true] at hp
        simp only [Bool.and_eq_true] at hc
        obtain ⟨⟨⟨hs, h0⟩, ht⟩, hl⟩ := hc
        obtain ⟨fs, hu⟩ := isStruct_of hs
        obtain rfl := beq_true h0
        split at hp <;> simp only [Option.some.injEq, Prod.mk.injEq, reduceCtorEq] at hp
        rename_i s hs'
        obtain ⟨_, rfl⟩ := hp
        refine eff_q (v := .agg (cs.map (conc g)).toArray) (h.put hs' (fun _ => rfl) (fun id' hid => h.heap.idB _ _ hb id' (by simpa [idsV, idsW, idsB] using hid)) trivial) (ld_here h o) (fun w1 hw1 => ?_)
        obtain ⟨b', hg', hh, _⟩ := hld w1 hw1
        rw [hg] at hg'; injection hg' with hg'; injection hg' with hg'; injection hg' with hg'; subst hg'
        rw [hex, he']
        simp [run_loadStruct hu (cs := cs.map (conc g)) (ad := ⟨b, 0, none⟩) (w := w1) (by rw [beq_true hl]; simp) (fun j v hj => by rw [add_lit, cell_of_row w1 b _ _ _ _ hh]; simpa using hj)]
      | false =>
        rw [hc] at hp
        simp only [cond_false] at hp
        cases ho : isOne P t with
        | false => rw [ho] at hp; simp at hp
        | true =>
          rw [ho] at hp
          simp only [cond_true] at hp
          split at hp
          · rename_i c hcc
            split at hp <;> simp only [Option.some.injEq, Prod.mk.injEq, reduceCtorEq] at hp
            rename_i s hs'
            obtain ⟨_, rfl⟩ := hp
            rw [nth_eq] at hcc
            refine eff_q (v := conc g c) (h.put hs' (fun _ => rfl) (fun id' hid => h.heap.idB _ _ hb id' (by
              simp only [idsB]; exact List.mem_flatMap.2 ⟨c, List.mem_of_getElem? hcc, by simpa [idsV, idsW] using hid⟩)) trivial) (ld_here h o) (fun w1 hw1 => ?_)
            obtain ⟨b', hg', hh, _⟩ := hld w1 hw1
            rw [hg] at hg'; injection hg' with hg'; injection hg' with hg'; injection hg' with hg'; subst hg'
            rw [hex, he']
            simp [run_loadOne (P := P) (w := w1) (ad := ⟨b, off, none⟩) (v := conc g c) ho (by rw [cell_of_row w1 b _ _ _ _ hh]; simp [hcc])]
          · simp at hp
    · simp at hp
  · -- an element
    rename_i id sz i off hv
    obtain ⟨he, hi, hep⟩ := h.ev (x := x) (by rw [hv]; simp)
    rw [hv] at he hi hep
    split at hp
    · rename_i k r hb
      obtain ⟨hlt, hsz⟩ := hep k r hb
      obtain ⟨ad, n, cap, hg, _, _⟩ := rowCell (h.heap.blk _ _ hb) (Nat.lt_of_le_of_lt (Nat.zero_le _) hlt)
      have hld : ∀ w1, LdOK P st g w0.heap.size o w1 → ∀ j u, (flat r)[j]? = some u → w1.cell? (ad.add j) = some u := fun w1 hw1 => by
        obtain ⟨ad', n', cap', hg', _, hcell⟩ := rowCell (hw1 id (by simp [loads, hop, hv, idOf]) _ hb) (Nat.lt_of_le_of_lt (Nat.zero_le _) hlt)
        rw [hg] at hg'; injection hg' with hg'; injection hg' with hg'; subst hg'; exact hcell
      have he' : a.eval x = .pointer (some (ad.add (i * sz + off))) := by rw [he]; simp only [concV, hg]
      have hel := elt_len P hlt
      cases hc : (isStruct P t && Nat.beq off 0 && Nat.beq t (RowT.ty r)) with
      | true =>
        rw [hc] at hp
        simp only [cond_true] at hp
        simp only [Bool.and_eq_true] at hc
        obtain ⟨⟨hs, h0⟩, ht⟩ := hc
        obtain ⟨fs, hu⟩ := isStruct_of hs
        obtain rfl := beq_true h0
        obtain rfl := beq_true ht
        split at hp <;> simp only [Option.some.injEq, Prod.mk.injEq, reduceCtorEq] at hp
        rename_i s hs'
        obtain ⟨_, rfl⟩ := hp
        have hm : ((RowT.elt r i).map C.sc).map (conc g) = (RowT.elt r i).map Sc.v := by rw [List.map_map]; rfl
        refine eff_q (v := .agg ((RowT.elt r i).map Sc.v).toArray) (h.put hs' (fun _ => by simp only [concV, concW, hm]) (by simp [idsV, idsW, idsC]) trivial) (ld_here h o) (fun w1 hw1 => ?_)
        have hcell := hld w1 hw1
        rw [hex, he']
        simp [run_loadStruct hu (cs := (RowT.elt r i).map Sc.v) (ad := ad.add (i * sz)) (w := w1) (by simp [hel]) (fun j v hj => by
          rw [add_add]; refine hcell _ _ ?_
          rw [List.getElem?_map] at hj
          rw [hsz, flat_at P hlt (by rcases Nat.lt_or_ge j (RowT.elt r i).length with h1 | h1; omega; rw [List.getElem?_eq_none h1] at hj; simp at hj)]; exact hj)]
      | false =>
        rw [hc] at hp
        simp only [cond_false] at hp
        cases ho : isOne P t with
        | false => rw [ho] at hp; simp at hp
        | true =>
          rw [ho] at hp
          simp only [cond_true] at hp
          split at hp
          · rename_i s hcc
            split at hp <;> simp only [Option.some.injEq, Prod.mk.injEq, reduceCtorEq] at hp
            rename_i st2 hs'
            obtain ⟨_, rfl⟩ := hp
            rw [nth_eq] at hcc
            have hj : off < (RowT.elt r i).length := by
              rcases Nat.lt_or_ge off (RowT.elt r i).length with h1 | h1
              · exact h1
              · rw [List.getElem?_eq_none h1] at hcc; simp at hcc
            refine eff_q (v := s.v) (h.put hs' (fun _ => rfl) (by simp [idsV, idsW, idsC]) trivial) (ld_here h o) (fun w1 hw1 => ?_)
            have hcell := hld w1 hw1
            rw [hex, he']
            simp [run_loadOne (P := P) (w := w1) (ad := ad.add (i * sz + off)) (v := s.v) ho (hcell _ _ (by rw [hsz, flat_at P hlt (by omega), hcc]; rfl))]
          · simp at hp
    · simp at hp
  · simp at hp
end
end Go.Proofs.Ytmfgajbkcnlkcaa.AI
namespace Go.Proofs.Ytmfgajbkcnlkcaa.AI
set_option linter.all false
open Go Go.RowKit
theorem flatten_set {α : Type} {n : Nat} : ∀ (l : List (List α)), (∀ c ∈ l, c.length = n) → ∀ (i : Nat) (c : List α), i < l.length → (l.set i c).flatten = l.flatten.take (i * n) ++ c ++ l.flatten.drop (i * n + n)
  | [], _, i, c, hi => by simp at hi
  | e :: l, h, i, c, hi => by
    have he := h e (List.mem_cons_self ..)
    cases i with
    | zero =>
      simp only [List.set_cons_zero, List.flatten_cons, Nat.zero_mul, Nat.zero_add, List.take_zero, List.nil_append]
      rw [← he, List.drop_left]
    | succ i =>
      simp only [List.set_cons_succ, List.flatten_cons]
      rw [flatten_set l (fun c' h' => h c' (List.mem_cons_of_mem _ h')) i c (by simpa using hi), show (i + 1) * n + n = e.length + (i * n + n) by rw [Nat.succ_mul]; omega, show (i + 1) * n = e.length + i * n by rw [Nat.succ_mul]; omega,
        List.take_length_add_append, List.drop_length_add_append]
      simp only [List.append_assoc]
theorem flatten_set1 {α : Type} {n : Nat} : ∀ (l : List (List α)), (∀ c ∈ l, c.length = n) → ∀ (i off : Nat) (e : List α) (v : α), l[i]? = some e → off < n → (l.set i (e.set off v)).flatten = l.flatten.set (i * n + off) v
  | [], _, i, off, e, v, hi, _ => by simp at hi
  | e0 :: l, h, i, off, e, v, hi, ho => by
    have he := h e0 (List.mem_cons_self ..)
    cases i with
    | zero =>
      simp only [List.getElem?_cons_zero, Option.some.injEq] at hi
      subst hi
      simp only [List.set_cons_zero, List.flatten_cons, Nat.zero_mul, Nat.zero_add]
      rw [List.set_append_left _ _ (by omega)]
    | succ i =>
      simp only [List.getElem?_cons_succ] at hi
      simp only [List.set_cons_succ, List.flatten_cons]
      rw [flatten_set1 l (fun c' h' => h c' (List.mem_cons_of_mem _ h')) i off e v hi ho, Nat.succ_mul, List.set_append_right _ _ (by omega)]
      congr 2; omega
section
variable {R : Type} [RowT R] {P : Program} [RowL P R] {w0 : World} {L : Nat → Prop} {g0 : Nat → Value} {hp0 : List (Blk R)} {st st' : St R} {g : Nat → Value} {a : Act} {w w' : World} {o : Oper}
variable {K : Act → World → Prop} {Q : Exit → Act → World → Prop} {ts : List Tst}
theorem grown_setRow (w : World) (b : Nat) (cs : Array Value) : w.grownBy (w.setRow b cs) (some b) := ⟨rfl, rfl, rfl, by simp, fun k _ hk => setRow_other w b k _ (fun e => hk (by simp [e]))⟩
theorem run_storeAt {t : TypeId} {i : TypeInfo} (hi : P.info? t = some i) {b off : Nat} {t' : TypeId} {cur : Array Value} {v : Value} {vs : List Value} (hv : v.cells.toList = vs) (hl : vs.length = P.cellsOf t)
    (hh : w.heap[b]? = some (.cells cur t' (0, 0))) (hf : off + vs.length ≤ cur.size) (h1 : ∀ u ∈ vs, u.oneCell' = true) :
    (Instr.storeAt t (.pointer (some ⟨b, off, none⟩)) v).run P w = .ok () (w.setRow b (cur.toList.take off ++ vs ++ cur.toList.drop (off + vs.length)).toArray) := by
  have hs : v.cells.size = P.cellsOf t := by rw [← hl, ← hv]; simp
  have := run_storeCells_at P b off t' vs 0 cur w hh (by simpa using hf) h1
  simp [Instr.storeAt, Instr.sureAddr, storeVar, run_size hi, hs, hv, this]
theorem Sc.one (s : Sc) : s.v.oneCell' = true := by cases s <;> rfl
theorem val_conc {c : C} {s : Sc} (h : c.val = some s) : conc g c = s.v := by
  cases c <;> simp only [C.val, Option.some.injEq, reduceCtorEq] at h <;> subst h <;> rfl
theorem vals_conc : ∀ {cs : List C} {vs : List Sc}, vals cs = some vs → cs.map (conc g) = vs.map Sc.v
  | [], vs, h => by simp only [vals, Option.some.injEq] at h; subst h; rfl
  | c :: cs, vs, h => by
    simp only [vals] at h
    split at h
    · rename_i v vs' h1 h2
      simp only [Option.some.injEq] at h; subst h
      rw [List.map_cons, List.map_cons, val_conc h1, vals_conc h2]
    · simp at h
theorem own_store {base e sz n b off : Nat} {c : Value} {xs vs : List Value} {cur : Array Value} {cap : Nat} (h : w.ownsRow base e sz c n xs) (hc : c = .slice (some ⟨b, 0, none⟩) n cap) (hh : w.heap[b]? = some (.cells cur e (0, 0)))
    (hf : off + vs.length ≤ n * sz) : (w.setRow b (cur.toList.take off ++ vs ++ cur.toList.drop (off + vs.length)).toArray).ownsRow base e sz c n (xs.take off ++ vs ++ xs.drop (off + vs.length)) := by
  obtain ⟨hl, h2⟩ := h
  rcases h2 with ⟨h2, _⟩ | ⟨b', cap', cur', hv, hb, hh', h3, h4, h5, h6⟩
  · rw [hc] at h2; simp at h2
  · rw [hc] at hv
    simp only [Value.slice.injEq, Option.some.injEq, Addr.mk.injEq, and_true, true_and] at hv
    obtain ⟨rfl, rfl⟩ := hv
    rw [hh] at hh'
    simp only [Option.some.injEq, Obj.cells.injEq, and_true] at hh'
    subst hh'
    have hN : n * sz ≤ cur.toList.length := by rw [Array.length_toList, h5]; exact Nat.mul_le_mul_right _ h3
    refine ⟨?_, .inr ⟨b, cap, _, hc, hb, setRow_heap w b cur _ e _ hh, h3, h4, ?_, ?_⟩⟩
    · simp only [List.length_append, List.length_take, List.length_drop]; omega
    · simp only [List.size_toArray, List.length_append, List.length_take, List.length_drop, Array.length_toList]
      rw [Array.length_toList] at hN; omega
    · subst h6
      have e1 : (cur.toList.take (n * sz)).take off = cur.toList.take off := by rw [List.take_take, Nat.min_eq_left (by omega)]
      have e2 : (cur.toList.take (n * sz)).drop (off + vs.length) = (cur.toList.drop (off + vs.length)).take (n * sz - off - vs.length) := by rw [List.drop_take]; congr 1; omega
      have e3 : (cur.toList.take off).length = off := by simp only [List.length_take]; omega
      have e4 : ((cur.toList.take off ++ vs ++ cur.toList.drop (off + vs.length)).take (n * sz)) = cur.toList.take off ++ vs ++ (cur.toList.drop (off + vs.length)).take (n * sz - off - vs.length) := by
        rw [List.append_assoc, List.append_assoc, List.take_append, e3, List.take_of_length_le (by omega : (cur.toList.take off).length ≤ n * sz), List.take_append, List.take_of_length_le (by omega : vs.length ≤ n * sz - off)]
      rw [e1, e2, ← e4]
theorem wp_store {t : TypeId} {x y : Operand} (hop : o.op = .store t x y) (h : Inv P w0 L g0 hp0 st g a w) (hp : pop P o st = some (ts, st')) : Eff P w0 L g0 hp0 st st' g a w o := by
  unfold pop at hp
  rw [hop] at hp
  dsimp only at hp
  have hex : execOp a.eval o = (do Instr.storeAt t (a.eval x) (a.eval y); pure Next.skip) := by unfold execOp; rw [hop]
  have fin : ∀ {w' : World} {hp' : List (Nat × Blk R)} {id b : Nat}, (Instr.storeAt t (a.eval x) (a.eval y)).run P w = .ok () w' → o.dst = none → HOK P w0 L st.nx hp' g w' → Same st.nx st.hp hp' → st' = { st with hp := hp' } → id ∈ idOf (AI.ev st x) → blkOf (g id) = some b → w.grownBy w' (some b) → Eff P w0 L g0 hp0 st st' g a w o := by
    intro w' hp' id b hr hd hh hs e hid hblk hgr
    refine eff_n (g' := g) (v := undef) (w' := w') (by rw [hop]; rfl) (.inr ⟨by rw [hex]; simp [hr], rfl⟩) ?_ (fun _ _ => rfl) (Tch.grown hgr (fun n hn => ⟨id, by simpa [writes, hop] using hid, by injection hn with hn; rw [← hn]; exact hblk⟩))
    rw [hd]
    subst e
    exact h.onto hh (Nat.le_refl _) (fun _ _ => rfl) hs
  split at hp
  · -- a variable
    rename_i id off y' hdst hv hy
    obtain ⟨he, hi, _⟩ := h.ev (x := x) (by rw [hv]; simp)
    obtain ⟨he2, hi2, _⟩ := h.ev (x := y) (by rw [hy]; simp)
    rw [hv] at he hi
    rw [hy] at he2 hi2
    split at hp
    · rename_i t' cs hb
      obtain ⟨b, hg, hh, h1⟩ := h.heap.blk _ _ hb
      have he' : a.eval x = .pointer (some ⟨b, off, none⟩) := by rw [he]; simp only [concV, hg]
      have hblk : blkOf (g id) = some b := by rw [hg]; rfl
      have turn : ∀ (zs : List C) (arr : Array Value), (∀ j ∈ zs.flatMap idsC, j < st.nx) → arr = (zs.map (conc g)).toArray → HOK P w0 L st.nx ((id, .box t' zs) :: st.hp) g (w.setRow b arr) := fun zs arr hz e =>
        h.heap.turn (b := .box t' cs) (b' := .box t' zs) hb trivial trivial (by rw [hblk]; exact grown_setRow w b _) hz
          ⟨b, hg, by rw [e]; exact setRow_heap w b _ _ t' _ hh, fun c hc => oneC h.heap.one fun q hq => hz q (List.mem_flatMap.2 ⟨c, hc, hq⟩)⟩ (fun _ => Iff.rfl) (fun _ hn => hn)
      split at hp
      · rename_i ys
        cases hc : (isStruct P t && Nat.beq off 0 && Nat.beq t t' && Nat.beq ys.length cs.length && Nat.beq (P.cellsOf t) cs.length) with
        | false => rw [hc] at hp; simp at hp
        | true =>
          rw [hc] at hp
          simp only [cond_true, Option.some.injEq, Prod.mk.injEq] at hp
          obtain ⟨_, hp⟩ := hp
          simp only [Bool.and_eq_true] at hc
          obtain ⟨⟨⟨⟨hs, h0⟩, ht⟩, hl⟩, hl2⟩ := hc
          obtain ⟨fs, hu⟩ := isStruct_of hs
          obtain ⟨i, hinf⟩ := info_of hu
          obtain rfl := beq_true h0
          have hl' := beq_true hl
          have hl2' := beq_true hl2
          have hys : ∀ j ∈ ys.flatMap idsC, j < st.nx := by simpa [idsV, idsW] using hi2
          refine fin (w' := w.setRow b ((ys.map (conc g)).toArray)) ?_ hdst (turn ys _ hys rfl) (Same.cons (.inr (.inl ⟨_, _, _, rfl, hb⟩))) hp.symm (id := id) (by rw [hv]; simp [idOf]) hblk (grown_setRow w b _)
          rw [he', he2]
          have := run_storeAt (P := P) hinf (b := b) (off := 0) (v := concV g (.w (.ag ys))) (vs := ys.map (conc g)) rfl (by simp; omega) hh (by simp; omega) (fun u hu => by
            obtain ⟨c, hc, rfl⟩ := List.mem_map.1 hu
            exact oneC h.heap.one fun q hq => hys q (List.mem_flatMap.2 ⟨c, hc, hq⟩))
          rw [this]
          congr 2
          simp [hl']
      · rename_i y1
        cases ho : isOne P t with
        | false => rw [ho] at hp; simp at hp
        | true =>
          rw [ho] at hp
          simp only [cond_true] at hp
          split at hp
          · rename_i c0 hc0
            simp only [Option.some.injEq, Prod.mk.injEq] at hp
            obtain ⟨_, hp⟩ := hp
            obtain ⟨hsz, _, i, hinf⟩ := isOne_of (P := P) (w := w) ho
            rw [nth_eq] at hc0
            have hoff : off < cs.length := by
              rcases Nat.lt_or_ge off cs.length with q | q
              · exact q
              · rw [List.getElem?_eq_none q] at hc0; simp at hc0
            have hy1 : ∀ j ∈ idsC y1, j < st.nx := by simpa [idsV, idsW] using hi2
            have hone := oneC h.heap.one hy1
            have hset : ∀ j ∈ (setAt cs off y1).flatMap idsC, j < st.nx := by
              intro j hj
              rw [setAt_eq] at hj
              obtain ⟨c, hc, hq⟩ := List.mem_flatMap.1 hj
              rcases List.mem_or_eq_of_mem_set hc with h5 | rfl
              · exact h.heap.idB _ _ hb j (List.mem_flatMap.2 ⟨c, h5, hq⟩)
              · exact hy1 j hq
            refine fin (w' := w.setRow b (((setAt cs off y1).map (conc g)).toArray)) ?_ hdst (turn _ _ hset rfl) (Same.cons (.inr (.inl ⟨_, _, _, rfl, hb⟩))) hp.symm (id := id) (by rw [hv]; simp [idOf]) hblk (grown_setRow w b _)
            rw [he', he2]
            have := run_storeAt (P := P) hinf (b := b) (off := off) (v := concV g (.w (.c y1))) (vs := [conc g y1]) (by simp only [concV, concW]; rw [cells_one hone]) (by simp [hsz]) hh (by simp; omega) (fun u hu => by simp at hu; rw [hu]; exact hone)
            rw [this]
            congr 3
            rw [setAt_eq, List.map_set, List.set_eq_take_append_cons_drop, if_pos (by simpa using hoff)]
            simp
          · simp at hp
    · simp at hp
  · -- an element
    rename_i id sz i off y' hdst hv hy
    obtain ⟨he, hi, hep⟩ := h.ev (x := x) (by rw [hv]; simp)
    obtain ⟨he2, hi2, _⟩ := h.ev (x := y) (by rw [hy]; simp)
    rw [hv] at he hi hep
    rw [hy] at he2 hi2
    split at hp
    · rename_i k r hb
      obtain ⟨hlt, hsz⟩ := hep _ r hb
      have hown : w.ownsRow (if k = 1 then w0.heap.size else 0) (RowT.ty r) (P.cellsOf (RowT.ty r)) (g id) (RowT.len r) (flat r) := h.heap.blk _ _ hb
      rcases hown.2 with ⟨_, h0⟩ | ⟨b, cap, cur, hg, _, hh, hcap, _, hcs, htk⟩
      · omega
      have hN : RowT.len r * P.cellsOf (RowT.ty r) ≤ cur.size := by rw [hcs]; exact Nat.mul_le_mul_right _ hcap
      have hblk : blkOf (g id) = some b := by rw [hg]; rfl
      have hpos : i * sz + sz ≤ RowT.len r * P.cellsOf (RowT.ty r) := by rw [hsz, ← Nat.succ_mul]; exact Nat.mul_le_mul_right _ hlt
      have he' : a.eval x = .pointer (some ⟨b, i * sz + off, none⟩) := by rw [he]; simp only [concV, hg, add_lit, Nat.zero_add]
      have hcl := RowL.len_eq (P := P) r
      have turn : ∀ (r' : R) (vs : List Value), RowT.ty r' = RowT.ty r → RowT.len r' = RowT.len r → i * sz + off + vs.length ≤ RowT.len r * P.cellsOf (RowT.ty r) → flat r' = (flat r).take (i * sz + off) ++ vs ++ (flat r).drop (i * sz + off + vs.length) →
          HOK P w0 L st.nx ((id, .rows (k + 1) r') :: st.hp) g (w.setRow b (cur.toList.take (i * sz + off) ++ vs ++ cur.toList.drop (i * sz + off + vs.length)).toArray) := fun r' vs ht hl hf hfl =>
        h.heap.turn (b := .rows (k + 1) r) (b' := .rows (k + 1) r') hb trivial trivial (by rw [hblk]; exact grown_setRow w b _) (by simp [idsB])
          (by simp only [BlkOK]; rw [ht, hl, hfl]; exact own_store hown hg hh hf) (fun _ => Iff.rfl) (fun _ hn => hn)
      split at hp
      · rename_i ys
        split at hp
        · rename_i vs hvs
          cases hc : (isStruct P t && Nat.beq off 0 && Nat.beq t (RowT.ty r)) with
          | false => rw [hc] at hp; simp at hp
          | true =>
            rw [hc] at hp
            simp only [cond_true] at hp
            split at hp
            · rename_i r' hr'
              simp only [Option.some.injEq, Prod.mk.injEq] at hp
              obtain ⟨_, hp⟩ := hp
              simp only [Bool.and_eq_true] at hc
              obtain ⟨⟨hs, h0⟩, ht⟩ := hc
              obtain ⟨fs, hu⟩ := isStruct_of hs
              obtain ⟨inf, hinf⟩ := info_of hu
              obtain rfl := beq_true h0
              have ht' := beq_true ht
              obtain ⟨hcel, hty⟩ := RowL.set_eq (P := P) r r' i vs hr'
              have hlen' : RowT.len r' = RowT.len r := by rw [RowL.len_eq (P := P), hcel, List.length_set, ← hcl]
              have hvl : vs.length = P.cellsOf (RowT.ty r) := by
                have : vs ∈ RowT.cel r' := by rw [hcel]; exact List.mem_set (by omega) vs
                rw [cel_len P this, hty]
              have hmap : ys.map (conc g) = vs.map Sc.v := vals_conc hvs
              have hfl : flat r' = (flat r).take (i * sz + 0) ++ vs.map Sc.v ++ (flat r).drop (i * sz + 0 + (vs.map Sc.v).length) := by
                rw [flat, hcel, flatten_set _ (fun c hc => cel_len P hc) i vs (by omega), flat]
                simp only [List.map_append, List.map_take, List.map_drop, Nat.add_zero, List.length_map, hsz, hvl]
              refine fin ?_ hdst (turn r' (vs.map Sc.v) hty hlen' (by simp [hvl]; omega) hfl) (Same.cons (.inr (.inr (.inr ⟨_, r', r, rfl, hb, hlen', hty⟩)))) hp.symm (id := id) (by rw [hv]; simp [idOf]) hblk (grown_setRow w b _)
              rw [he', he2]
              exact run_storeAt (P := P) hinf (v := concV g (.w (.ag ys))) (by simp only [concV, concW, Value.cells]; exact hmap) (by simp [hvl, ht']) hh (by simp [hvl]; omega) (fun u hu => by
                obtain ⟨s, _, rfl⟩ := List.mem_map.1 hu; exact s.one)
            · simp at hp
        · simp at hp
      · rename_i y1
        split at hp
        · rename_i s hs
          cases ho : isOne P t with
          | false => rw [ho] at hp; simp at hp
          | true =>
            rw [ho] at hp
            simp only [cond_true] at hp
            split at hp
            · rename_i c0 hc0
              split at hp
              · rename_i r' hr'
                simp only [Option.some.injEq, Prod.mk.injEq] at hp
                obtain ⟨_, hp⟩ := hp
                obtain ⟨hsz1, _, inf, hinf⟩ := isOne_of (P := P) (w := w) ho
                rw [nth_eq] at hc0
                have hel := elt_len P hlt
                have hoff : off < (RowT.elt r i).length := by
                  rcases Nat.lt_or_ge off (RowT.elt r i).length with q | q
                  · exact q
                  · rw [List.getElem?_eq_none q] at hc0; simp at hc0
                obtain ⟨hcel, hty⟩ := RowL.set_eq (P := P) r r' i _ hr'
                have hlen' : RowT.len r' = RowT.len r := by rw [RowL.len_eq (P := P), hcel, List.length_set, ← hcl]
                have hfl : flat r' = (flat r).take (i * sz + off) ++ [s.v] ++ (flat r).drop (i * sz + off + [s.v].length) := by
                  rw [flat, hcel, setAt_eq, flatten_set1 _ (fun c hc => cel_len P hc) i off _ s (RowL.elt_eq (P := P) r i hlt) (by omega), List.map_set, ← flat, List.set_eq_take_append_cons_drop, if_pos (by rw [flat_length (P := P)]; have hp2 := hpos; rw [hsz] at hp2; omega), hsz]
                  simp
                refine fin ?_ hdst (turn r' [s.v] hty hlen' (by simp; omega) hfl) (Same.cons (.inr (.inr (.inr ⟨_, r', r, rfl, hb, hlen', hty⟩)))) hp.symm (id := id) (by rw [hv]; simp [idOf]) hblk (grown_setRow w b _)
                rw [he', he2]
                have hcv : concV g (.w (.c y1)) = s.v := val_conc hs
                exact run_storeAt (P := P) hinf (v := concV g (.w (.c y1))) (by rw [hcv, cells_one s.one]) (by simp [hsz1]) hh (by simp; omega) (fun u hu => by simp at hu; rw [hu]; exact s.one)
              · simp at hp
            · simp at hp
        · simp at hp
    · simp at hp
  · simp at hp
end
end Go.Proofs.Ytmfgajbkcnlkcaa.AI
namespace Go.Proofs.Ytmfgajbkcnlkcaa.AI
set_option linter.all false
open Go Go.RowKit
theorem fold_set : ∀ (vs : List Value) (off j : Nat) (cs : Array Value), off + j + vs.length ≤ cs.size →
    (vs.zipIdx j).foldl (fun cs (p : Value × Nat) => cs.setIfInBounds (off + p.2) p.1) cs = (cs.toList.take (off + j) ++ vs ++ cs.toList.drop (off + j + vs.length)).toArray
  | [], off, j, cs, _ => by simp
  | v :: vs, off, j, cs, h => by
    have h' : off + j < cs.size := by simp at h; omega
    rw [List.zipIdx_cons, List.foldl_cons, fold_set vs off (j + 1) _ (by simp at h ⊢; omega)]
    congr 1
    simp only [Array.toList_setIfInBounds]
    have hl : off + j < cs.toList.length := by simpa using h'
    rw [List.set_eq_take_append_cons_drop, if_pos hl]
    have e1 : (cs.toList.take (off + j)).length = off + j := by rw [List.length_take]; omega
    have e2 : (cs.toList.take (off + j) ++ v :: cs.toList.drop (off + j + 1)).take (off + (j + 1)) = cs.toList.take (off + j) ++ [v] := by
      rw [List.take_append, e1, List.take_of_length_le (by omega), show off + (j + 1) - (off + j) = 1 by omega]; simp
    have e3 : (cs.toList.take (off + j) ++ v :: cs.toList.drop (off + j + 1)).drop (off + (j + 1) + vs.length) = cs.toList.drop (off + j + (v :: vs).length) := by
      rw [List.drop_append, e1, List.drop_eq_nil_of_le (by omega), show off + (j + 1) + vs.length - (off + j) = vs.length + 1 by omega]
      simp only [List.drop_succ_cons, List.nil_append, List.drop_drop, List.length_cons]
      congr 1; omega
    rw [e2, e3]; simp
theorem fill_step {place : Nat → Option (Nat × Nat)} {cells : Array Value} {i off sz : Nat} {v : Value} {vs : List Value} {rest : List (Nat × Value)} (hp : place i = some (off, sz)) (hv : v.cells.toList = vs) (hl : vs.length = sz) (hf : off + sz ≤ cells.size) :
    Instr.fill place cells ((i, v) :: rest) = Instr.fill place (cells.toList.take off ++ vs ++ cells.toList.drop (off + sz)).toArray rest := by
  have hs : v.cells.size = sz := by rw [← hl, ← hv]; simp
  have := fold_set vs off 0 cells (by omega)
  simp only [Nat.add_zero] at this
  rw [Instr.fill, hp]
  dsimp only
  rw [if_neg (by rw [hs]; simp; omega)]
  congr 1
  rw [← hl, ← this, ← hv, ← Array.foldl_toList, Array.toList_zipIdx]
section
variable {R : Type} [RowT R] {P : Program} [RowL P R] {w0 : World} {L : Nat → Prop} {g0 : Nat → Value} {hp0 : List (Blk R)} {st st' : St R} {g : Nat → Value} {a : Act} {w w' : World} {o : Oper}
variable {K : Act → World → Prop} {Q : Exit → Act → World → Prop} {ts : List Tst}
theorem places_plain : ∀ (fs : List Field) (n : Nat), plainF P fs n = true → ∃ ps, fs.mapM (fun f => (P.info? f.type).map fun i => (f.offset, i.size)) = some ps ∧ ps.length = fs.length ∧ ∀ j, j < ps.length → ps[j]? = some (n + j, 1)
  | [], n, _ => ⟨[], by simp, rfl, by simp⟩
  | f :: fs, n, h => by
    simp only [plainF, Bool.and_eq_true] at h
    obtain ⟨⟨h1, h2⟩, h3⟩ := h
    obtain ⟨ps, h4, h5, h6⟩ := places_plain fs (n + 1) h3
    have h2' := beq_true h2
    cases hi : P.info? f.type with
    | none => simp [Program.cellsOf, hi] at h2'
    | some i =>
      have hsz : i.size = 1 := by simpa [Program.cellsOf, hi] using h2'
      refine ⟨(n, 1) :: ps, by simp [List.mapM_cons, hi, h4, hsz, beq_true h1], by simp [h5], fun j hj => ?_⟩
      cases j with
      | zero => simp
      | succ j => rw [List.getElem?_cons_succ, h6 j (by simpa using hj)]; congr 2; omega
theorem parts_ok (h : Inv P w0 L g0 hp0 st g a w) {place : Nat → Option (Nat × Nat)} : ∀ (ps : List (Nat × Operand)) (cs cs' : List C), parts st ps cs = some cs' → (∀ j, j < cs.length → place j = some (j, 1)) → (∀ id ∈ cs.flatMap idsC, id < st.nx) →
    Instr.fill place (cs.map (conc g)).toArray (ps.map fun p => (p.1, a.eval p.2)) = some (cs'.map (conc g)).toArray ∧ (∀ id ∈ cs'.flatMap idsC, id < st.nx)
  | [], cs, cs', hp, _, hi => by simp only [parts, Option.some.injEq] at hp; subst hp; exact ⟨rfl, hi⟩
  | (i, x) :: ps, cs, cs', hp, hpl, hi => by
    simp only [parts] at hp
    split at hp
    · rename_i y hy
      split at hp
      · rename_i c0 hc0
        rw [nth_eq] at hc0
        have hlt : i < cs.length := by
          rcases Nat.lt_or_ge i cs.length with q | q
          · exact q
          · rw [List.getElem?_eq_none q] at hc0; simp at hc0
        obtain ⟨he, hids, _⟩ := h.ev (x := x) (by rw [hy]; simp)
        rw [hy] at he hids
        have hy1 : ∀ j ∈ idsC y, j < st.nx := by simpa [idsV, idsW] using hids
        rw [setAt_eq] at hp
        obtain ⟨h1, h2⟩ := parts_ok h ps (cs.set i y) cs' hp (by simpa using hpl) (fun j hj => by
          obtain ⟨c, hc, hq⟩ := List.mem_flatMap.1 hj
          rcases List.mem_or_eq_of_mem_set hc with h5 | rfl
          · exact hi j (List.mem_flatMap.2 ⟨c, h5, hq⟩)
          · exact hy1 j hq)
        refine ⟨?_, h2⟩
        rw [List.map_cons, fill_step (hpl i hlt) (v := a.eval x) (vs := [conc g y]) (by rw [he]; simp only [concV, concW]; rw [cells_one (oneC h.heap.one hy1)]) rfl (by simp; omega)]
        rw [← h1]
        congr 2
        rw [List.map_set, List.set_eq_take_append_cons_drop, if_pos (by simpa using hlt)]
        simp
      · simp at hp
    · simp at hp
omit [RowL P R] in
theorem parts_congr {st1 st : St R} (h : ∀ x, AI.ev st1 x = AI.ev st x) : ∀ (ps : List (Nat × Operand)) (cs : List C), parts st1 ps cs = parts st ps cs
  | [], _ => rfl
  | (i, x) :: ps, cs => by
    have ih := parts_congr h ps
    simp only [parts, h x, ih]
theorem wp_buildOp {t : TypeId} {ps : Array (Nat × Operand)} (hop : o.op = .build t ps) (h : Inv P w0 L g0 hp0 st g a w) {cs cs' : List C} {st1 : St R} (hz : zeroOf P t st = some (st1, cs)) (hps : parts st ps.toList cs = some cs')
    (hpl : plainS P t cs.length = true) (hp : st1.put o.dst (.w (.ag cs')) = some st') : Eff P w0 L g0 hp0 st st' g a w o := by
  obtain ⟨g1, fs, i, z, h1, hu, hi, hiz, hc, hids, hev, hg1, _⟩ := zeroOf_ok h hz
  unfold plainS at hpl
  rw [hu] at hpl
  simp only [Bool.and_eq_true] at hpl
  obtain ⟨hpl, hlen⟩ := hpl
  have hlen' := beq_true hlen
  obtain ⟨pl, hm, hpln, hplj⟩ := places_plain fs.toList 0 hpl
  have hparts : parts st1 ps.toList cs = some cs' := by
    rw [← hps]; exact parts_congr hev _ _
  obtain ⟨hf, hids'⟩ := parts_ok h1 (place := (pl.toArray[·]?)) ps.toList cs cs' hparts (fun j hj => by
    have hj' : j < pl.length := by rw [hpln]; simp; omega
    have := hplj j hj'
    simpa using this) hids
  have hb : P.built t (ps.map fun (i, x) => (i, a.eval x)).toList = some (cs'.map (conc g1)).toArray := by
    unfold Program.built
    simp only [hi, hu, hiz, hm, Value.cells]
    rw [← hf]
    congr 1
    · rw [hc]
    · simp
  refine eff_n (g' := g1) (v := .agg (cs'.map (conc g1)).toArray) (w' := w) (by rw [hop]; rfl) (.inl ?_) (h1.put hp (fun _ => rfl) (by simpa [idsV, idsW] using hids') trivial) hg1 (Tch.refl _ _ _)
  unfold execOp; rw [hop]
  simp [run_build w t _ _ hb]
theorem elems_ok (h : Inv P w0 L g0 hp0 st g a w) {sz : Nat} : ∀ (ps : List (Nat × Operand)) (n : Nat) (r r' : R) (cells : Array Value), elems st ps n r = some r' → n = RowT.len r → P.cellsOf (RowT.ty r) = sz → (n + ps.length) * sz ≤ cells.size → cells.toList.take (n * sz) = flat r →
    ∃ cells', Instr.fill (fun i => some (i * sz, sz)) cells (ps.map fun p => (p.1, a.eval p.2)) = some cells' ∧ cells'.size = cells.size ∧ cells'.toList.take ((n + ps.length) * sz) = flat r' ∧ RowT.len r' = n + ps.length ∧ RowT.ty r' = RowT.ty r
  | [], n, r, r', cells, he, hn, hs, hf, ht => by
    simp only [elems, Option.some.injEq] at he; subst he
    exact ⟨cells, rfl, rfl, by simpa using ht, by simp [hn], rfl⟩
  | (i, x) :: ps, n, r, r', cells, he, hn, hs, hf, ht => by
    simp only [elems] at he
    cases hi : Nat.beq i n with
    | false => rw [hi] at he; simp at he
    | true =>
      rw [hi] at he
      obtain rfl := beq_true hi
      simp only [cond_true] at he
      split at he
      · rename_i y hy
        split at he
        · rename_i vs hvs
          split at he
          · rename_i r1 hr1
            obtain ⟨hcel, hty⟩ := RowL.snoc_eq (P := P) r r1 vs hr1
            have hlen : RowT.len r1 = i + 1 := by rw [RowL.len_eq (P := P), hcel, List.length_append, ← RowL.len_eq (P := P), ← hn]; rfl
            have hvl : vs.length = sz := by
              have : vs ∈ RowT.cel r1 := by rw [hcel]; simp
              rw [cel_len P this, hty, hs]
            have hfl : flat r1 = flat r ++ vs.map Sc.v := by simp [flat, hcel]
            obtain ⟨hev, hids, _⟩ := h.ev (x := x) (by rw [hy]; simp)
            rw [hy] at hev hids
            have hc : (a.eval x).cells.toList = vs.map Sc.v := by
              rw [hev]; simp only [concV]; rw [cellsW h.heap.one (by simpa [idsV] using hids)]; exact vals_conc hvs
            have hsz : (i + (ps.length + 1)) * sz ≤ cells.size := by simpa using hf
            have hsz2 : i * sz + sz ≤ cells.size := by rw [← Nat.succ_mul]; exact Nat.le_trans (Nat.mul_le_mul_right _ (by omega)) hsz
            have e1 : (cells.toList.take (i * sz)).length = i * sz := by rw [List.length_take, Array.length_toList]; omega
            obtain ⟨cells', h1, h2, h3, h4, h5⟩ := elems_ok h ps (i + 1) r1 r' (cells.toList.take (i * sz) ++ vs.map Sc.v ++ cells.toList.drop (i * sz + sz)).toArray he hlen.symm (by rw [hty, hs])
              (by
                simp only [List.size_toArray, List.length_append, e1, List.length_map, List.length_drop, Array.length_toList, hvl]
                rw [show i + 1 + ps.length = i + (ps.length + 1) by omega]; omega)
              (by
                rw [hfl, ← ht, Nat.succ_mul, List.take_append, List.take_of_length_le (by simp [hvl]; omega)]
                simp [hvl]; omega)
            refine ⟨cells', ?_, ?_, ?_, by rw [h4, List.length_cons]; omega, h5.trans hty⟩
            · rw [List.map_cons, fill_step (off := i * sz) (sz := sz) rfl hc (by simp [hvl]) hsz2]; exact h1
            · rw [h2]; simp only [List.size_toArray, List.length_append, e1, List.length_map, List.length_drop, Array.length_toList, hvl]; omega
            · rw [← h3, List.length_cons]; congr 2; omega
          · simp at he
        · simp at he
      · simp at he
theorem wp_buildSlice {t e : TypeId} {n : Nat} {ps : Array (Nat × Operand)} (hop : o.op = .buildSlice t n ps) (h : Inv P w0 L g0 hp0 st g a w) (hu : P.underlying t = some (.slice e)) {r0 r : R} (hr0 : RowT.nil e = some r0)
    (hr : elems st ps.toList 0 r0 = some r) (hn : n = ps.size) (hb : n * P.cellsOf e ≤ 16777216) (hp : AI.newRows st o.dst r = some st') : Eff P w0 L g0 hp0 st st' g a w o := by
  obtain ⟨hc0, ht0⟩ := RowL.nil_eq (P := P) e r0 hr0
  have hl0 : RowT.len r0 = 0 := by rw [RowL.len_eq (P := P), hc0]; rfl
  obtain ⟨i, z, hi, hz, hzs, hsp, _, _⟩ := RowL.info (P := P) r0
  rw [ht0] at hi
  have hce : P.cellsOf e = i.size := by simp [Program.cellsOf, hi]
  have key : ∀ cells : Array Value, cells.size = n * P.cellsOf e → ∃ cells', Instr.fill (fun j => some (j * P.cellsOf e, P.cellsOf e)) cells (ps.toList.map fun p => (p.1, a.eval p.2)) = some cells' ∧ cells'.size = n * P.cellsOf e ∧ cells'.toList = flat r ∧ RowT.len r = n ∧ RowT.ty r = e := by
    intro cells hs
    obtain ⟨cells', h1, h2, h3, h4, h5⟩ := elems_ok h (sz := P.cellsOf e) ps.toList 0 r0 r cells hr hl0.symm (by rw [ht0]) (by rw [hs, hn]; simp) (by simp [flat, hc0])
    refine ⟨cells', h1, by rw [h2, hs], ?_, by rw [h4, hn]; simp, h5.trans ht0⟩
    rw [← h3, List.take_of_length_le]
    rw [Array.length_toList, h2, hs, hn]; simp
  have run : ∃ cells', (Instr.buildSlice t n (ps.map fun (i, x) => (i, a.eval x))).run P w = .ok (.slice (some ⟨w.heap.size, 0, none⟩) n n) (w.alloc (.cells cells' e)) ∧ cells'.size = n * P.cellsOf e ∧ cells'.toList = flat r ∧ RowT.len r = n ∧ RowT.ty r = e := by
    have hlim : ¬ (16777216 < n * P.cellsOf e) := by omega
    by_cases h0 : n * P.cellsOf e = 0
    · obtain ⟨cells', h1, h2⟩ := key #[] (by simp [h0])
      refine ⟨cells', ?_, h2⟩
      have hn0 : n = 0 := by
        rcases Nat.mul_eq_zero.1 h0 with q | q
        · exact q
        · rw [hce] at q; omega
      have hps : ps = #[] := Array.eq_empty_of_size_eq_zero (by rw [← hn, hn0])
      subst hps
      subst hn0
      simp only [List.map_nil, Instr.fill, Option.some.injEq] at h1
      subst h1
      simp [Instr.buildSlice, run_underlying hu, run_size hi, newRow, Instr.fill, Array.range_zero']
    · obtain ⟨cells', h1, h2⟩ := key ((Array.range (n * P.cellsOf e)).map fun j => z.cells[j % z.cells.size]!) (by simp)
      refine ⟨cells', ?_, h2⟩
      simp [Instr.buildSlice, run_underlying hu, run_size hi, hlim, h0, newRow, run_zero hi hz, h1]
  obtain ⟨cells', hrun, hsz, hfl, hlen, hty⟩ := run
  have hmax : n ≤ maxLen := by
    have : n ≤ n * P.cellsOf e := Nat.le_mul_of_pos_right n (by rw [hce]; omega)
    simp only [maxLen]; omega
  have hown := World.ownsRow_lit (base := w0.heap.size) (e := e) (size := P.cellsOf e) w cells' n h.heap.frame.size hmax hsz
  obtain ⟨g', hg', hg2⟩ := h.newRows hp (World.grownBy_alloc w (.cells cells' e) none) (by simp) (c := .slice (some ⟨w.heap.size, 0, none⟩) n n) (by rw [hty, hlen, ← hfl]; exact hown) (fun m hm => .inl (by simp [blkOf] at hm; omega))
  refine eff_n (w' := w.alloc (.cells cells' e)) (by rw [hop]; rfl) (.inl ?_) hg' hg2 (Tch.grown (World.grownBy_alloc w _ none) (by simp))
  unfold execOp; rw [hop]
  simp [hrun]
end
end Go.Proofs.Ytmfgajbkcnlkcaa.AI
namespace Go.Proofs.Ytmfgajbkcnlkcaa.AI
set_option linter.all false
open Go Go.RowKit
section
variable {R : Type} [RowT R] {P : Program} [RowL P R] {w0 : World} {L : Nat → Prop} {g0 : Nat → Value} {hp0 : List (Blk R)} {st st' : St R} {g : Nat → Value} {a : Act} {w w' : World} {o : Oper}
variable {K : Act → World → Prop} {Q : Exit → Act → World → Prop} {ts : List Tst}
theorem binV_run {op : BinOp} {u v : V} {c : C} (t : TypeId) (h : binV (isBool P t) op u v = some (ts, c)) (ht : ∀ t ∈ ts, t.p) : (∀ x y, (eqGuard op t x y (concV g u) (concV g v)).run P w = .ok () w) ∧ (binOp op t (concV g u) (concV g v)).run P w = .ok (conc g c) w ∧ idsC c = [] := by
  unfold binV at h
  split at h
  · split at h
    · rename_i hk
      subst hk
      obtain ⟨h1, h2⟩ := binI_run (g := g) (P := P) (w := w) h ht t
      refine ⟨fun x y => ?_, h1, h2⟩
      simp only [concV, concW, conc, Sc.v, eqGuard]
      split <;> simp
    · simp at h
  · rename_i x y _
    split at h
    · rename_i a b hx hy
      have ex := val_conc (g := g) hx
      have ey := val_conc (g := g) hy
      simp only [Sc.v] at ex ey
      have hu : P.underlying t = some .bool := by
        cases hb : isBool P t with
        | false => rw [hb] at h; simp at h
        | true => unfold isBool at hb; split at hb <;> first | assumption | simp at hb
      have hq := run_equal_bool (P := P) w t a b hu
      rw [show isBool P t = true by simp [isBool, hu]] at h
      simp only [cond_true] at h
      split at h
      · simp only [Option.some.injEq, Prod.mk.injEq] at h; obtain ⟨rfl, rfl⟩ := h
        refine ⟨fun x' y' => ?_, ?_, rfl⟩
        · simp only [concV, concW, ex, ey, eqGuard]; split <;> simp
        · show (binOp .eql t (conc g x) (conc g y)).run P w = _
          have hq' : (Op.equal t (.bool a) (.bool b)).run P w = .ok (a == b) w := hq
          rw [ex, ey]; simp [binOp, conc, Sc.v, hq', bne]
      · simp only [Option.some.injEq, Prod.mk.injEq] at h; obtain ⟨rfl, rfl⟩ := h
        refine ⟨fun x' y' => ?_, ?_, rfl⟩
        · simp only [concV, concW, ex, ey, eqGuard]; split <;> simp
        · show (binOp .neq t (conc g x) (conc g y)).run P w = _
          have hq' : (Op.equal t (.bool a) (.bool b)).run P w = .ok (a == b) w := hq
          rw [ex, ey]; simp [binOp, conc, Sc.v, hq', bne]
      · simp at h
    · simp at h
  · simp at h
theorem unV_run {op : UnOp} {v : V} {c : C} (h : unV op v = some c) : (Op.unary op (concV g v)).run P w = .ok (conc g c) w ∧ idsC c = [] := by
  unfold unV at h
  split at h
  · rename_i x
    split at h <;> simp only [Option.some.injEq, reduceCtorEq] at h <;> subst h <;> simp [concV, concW, conc, Sc.v, Op.unary, Op.intArith, idsC, wr_eq]
  · simp at h
theorem offOf_ok {fs : Array Field} {f k : Nat} (h : offOf P fs.toList f = some k) : ∃ x i, fs[f]? = some x ∧ P.info? x.type = some i ∧ P.cellsOf x.type = 1 ∧ x.offset = k := by
  unfold offOf at h
  split at h
  · rename_i x hx
    rw [nth_eq] at hx
    cases hb : Nat.beq (P.cellsOf x.type) 1 with
    | false => rw [hb] at h; simp at h
    | true =>
      rw [hb] at h
      simp only [cond_true, Option.some.injEq] at h
      have hc := beq_true hb
      cases hi : P.info? x.type with
      | none => simp [Program.cellsOf, hi] at hc
      | some i => exact ⟨x, i, by simpa using hx, hi, hc, h⟩
  · simp at h
theorem run_fieldAt {s : TypeId} {fs : Array Field} {f k : Nat} (hu : P.underlying s = some (.struct fs)) (hf : offOf P fs.toList f = some k) (ad : Addr) : (Instr.fieldAt s (.pointer (some ad)) f).run P w = .ok (.pointer (some (ad.add k))) w := by
  obtain ⟨x, i, h1, h2, h3, h4⟩ := offOf_ok hf
  subst h4
  simp [Instr.fieldAt, run_underlying hu, h1, Instr.sureAddr, fieldPlace, run_size h2, h3]
theorem wp_fieldAddr {s : TypeId} {x : Operand} {f : Nat} (hop : o.op = .fieldAddr s x f) (h : Inv P w0 L g0 hp0 st g a w) (hp : pop P o st = some (ts, st')) : Eff P w0 L g0 hp0 st st' g a w o := by
  unfold pop at hp
  rw [hop] at hp
  dsimp only at hp
  have hex : execOp a.eval o = (do pure (Next.value (← Instr.fieldAt s (a.eval x) f))) := by unfold execOp; rw [hop]
  split at hp
  · rename_i fs id off hu hv
    split at hp
    · rename_i k t' cs hk hb
      cases h0 : Nat.beq off 0 with
      | false => rw [h0] at hp; simp at hp
      | true =>
        rw [h0] at hp
        obtain rfl := beq_true h0
        simp only [cond_true] at hp
        split at hp <;> simp only [Option.some.injEq, Prod.mk.injEq, reduceCtorEq] at hp
        rename_i s1 hs1
        obtain ⟨_, rfl⟩ := hp
        obtain ⟨he, hi, _⟩ := h.ev (x := x) (by rw [hv]; simp)
        rw [hv] at he hi
        obtain ⟨b, hg, _, _⟩ := h.heap.blk _ _ hb
        refine eff_q (v := .pointer (some ⟨b, k, none⟩)) (h.put hs1 (fun _ => by simp only [concV, hg]) (by simpa [idsV] using hi) trivial) (ld_here h o) (fun w1 _ => ?_)
        rw [hex, he]
        simp only [concV, hg]
        simp [run_fieldAt hu hk, add_lit]
    · simp at hp
  · rename_i fs id sz i off hu hv
    split at hp
    · rename_i k kk r hk hb
      cases h0 : Nat.beq off 0 with
      | false => rw [h0] at hp; simp at hp
      | true =>
        rw [h0] at hp
        obtain rfl := beq_true h0
        simp only [cond_true] at hp
        split at hp <;> simp only [Option.some.injEq, Prod.mk.injEq, reduceCtorEq] at hp
        rename_i s1 hs1
        obtain ⟨_, rfl⟩ := hp
        obtain ⟨he, hi, hep⟩ := h.ev (x := x) (by rw [hv]; simp)
        rw [hv] at he hi hep
        obtain ⟨hlt, _⟩ := hep _ r hb
        obtain ⟨ad, n, cap, hg, _, _⟩ := rowCell (h.heap.blk _ _ hb) (Nat.lt_of_le_of_lt (Nat.zero_le _) hlt)
        refine eff_q (v := .pointer (some (ad.add (i * sz + k)))) (h.put hs1 (fun _ => by simp only [concV, hg]) (by simpa [idsV] using hi) hep) (ld_here h o) (fun w1 _ => ?_)
        rw [hex, he]
        simp only [concV, hg]
        simp [run_fieldAt hu hk, add_add]
    · simp at hp
  · simp at hp
theorem run_indexAt {t e : TypeId} {inf : TypeInfo} (hu : P.underlying t = some (.slice e)) (hi : P.info? e = some inf) {ad : Addr} {n cap : Nat} {k : IntKind} {i : Int} (h0 : 0 ≤ i) (h1 : i < n) :
    (Instr.indexAt t (.slice (some ad) n cap) (.int k i)).run P w = .ok (.pointer (some (ad.add (i.toNat * inf.size)))) w := by
  simp [Instr.indexAt, run_underlying hu, asIntOf, h0, h1, sizeOf, typeInfo, hi]
theorem wp_indexAddr {t : TypeId} {x y : Operand} (hop : o.op = .indexAddr t x y) (h : Inv P w0 L g0 hp0 st g a w) (hp : pop P o st = some (ts, st')) (ht : ∀ t ∈ ts, t.p) : Eff P w0 L g0 hp0 st st' g a w o := by
  unfold pop at hp
  rw [hop] at hp
  dsimp only at hp
  have hex : execOp a.eval o = (do pure (Next.value (← Instr.indexAt t (a.eval x) (a.eval y)))) := by unfold execOp; rw [hop]
  split at hp
  · rename_i e id k n hu hv hy
    split at hp
    · rename_i kk r inf hb hinf
      cases hbe : Nat.beq e (RowT.ty r) with
      | false => rw [hbe] at hp; simp at hp
      | true =>
      rw [hbe] at hp
      simp only [cond_true] at hp
      have hte := beq_true hbe
      split at hp
      · rename_i s1 hs1
        simp only [Option.some.injEq, Prod.mk.injEq] at hp
        obtain ⟨rfl, rfl⟩ := hp
        have h0 : 0 ≤ n := ht ⟨0 ≤ n, inferInstance⟩ (by simp)
        have h1 : n < (RowT.len r : Nat) := ht ⟨n < (RowT.len r : Nat), inferInstance⟩ (by simp)
        obtain ⟨he, hi, _⟩ := h.ev (x := x) (by rw [hv]; simp)
        obtain ⟨he2, _, _⟩ := h.ev (x := y) (by rw [hy]; simp)
        rw [hv] at he hi
        rw [hy] at he2
        have hlt : n.toNat < RowT.len r := by omega
        obtain ⟨ad, m, cap, hg, hm, _⟩ := rowCell (h.heap.blk _ _ hb) (by omega)
        refine eff_q (v := .pointer (some (ad.add (n.toNat * inf.size)))) (h.put hs1 (fun _ => by simp only [concV, hg, Nat.add_zero]) (by simpa [idsV, idsW, idsC] using hi) (fun k' r' hr' => ?_)) (ld_here h o) (fun w1 _ => ?_)
        · rw [hb] at hr'
          simp only [Option.some.injEq, Blk.rows.injEq] at hr'
          obtain ⟨_, rfl⟩ := hr'
          exact ⟨hlt, by rw [← hte]; simp [Program.cellsOf, hinf]⟩
        · rw [hex, he, he2]
          simp only [concV, concW, conc, Sc.v, hg]
          simp [run_indexAt hu hinf h0 (show n < (m : Nat) by rw [hm]; exact h1)]
      · simp at hp
    · simp at hp
  · simp at hp
theorem lim_ok {n bytes : Nat} (h : n < lim bytes) (hb : 0 < bytes) : n * bytes ≤ 140737488355328 := by
  unfold lim at h
  have h1 : n ≤ 140737488355328 / bytes := by omega
  exact Nat.le_trans (Nat.mul_le_mul_right _ h1) (Nat.div_mul_le_self _ _)
theorem limM_ok {n bytes : Nat} (h : n < limM bytes) (hb : 0 < bytes) : n * bytes ≤ 281474976710656 := by
  unfold limM at h
  have h1 : n ≤ 281474976710656 / bytes := by omega
  exact Nat.le_trans (Nat.mul_le_mul_right _ h1) (Nat.div_mul_le_self _ _)
theorem le_mul_pos {n b : Nat} (h : 0 < b) : n ≤ n * b := Nat.le_mul_of_pos_right n h
theorem wp_makeSlice {t : TypeId} {x y : Operand} (hop : o.op = .makeSlice t x y) (h : Inv P w0 L g0 hp0 st g a w) (hp : pop P o st = some (ts, st')) (ht : ∀ t ∈ ts, t.p) : Eff P w0 L g0 hp0 st st' g a w o := by
  unfold pop at hp
  rw [hop] at hp
  dsimp only at hp
  have hex : execOp a.eval o = (do pure (Next.value (← Instr.makeSlice t (a.eval x) (a.eval y)))) := by unfold execOp; rw [hop]
  split at hp
  · rename_i e n m hu hv hy
    split at hp
    · rename_i r inf hr hinf
      split at hp
      · rename_i s1 hs1
        simp only [Option.some.injEq, Prod.mk.injEq] at hp
        obtain ⟨rfl, rfl⟩ := hp
        obtain rfl : n = m := ht ⟨n = m, inferInstance⟩ (by simp)
        have h0 : 0 ≤ n := ht ⟨0 ≤ n, inferInstance⟩ (by simp)
        have h1 : n < (limM inf.bytes : Nat) := ht ⟨n < (limM inf.bytes : Nat), inferInstance⟩ (by simp)
        obtain ⟨he, _, _⟩ := h.ev (x := x) (by rw [hv]; simp)
        obtain ⟨he2, _, _⟩ := h.ev (x := y) (by rw [hy]; simp)
        rw [hv] at he
        rw [hy] at he2
        obtain ⟨hty, i, z, cs, hi, hz, hzc, hcel⟩ := RowL.zer_eq (P := P) e n.toNat r hr
        obtain ⟨i', z', hi', hz', hzs, hsp, hbp, _⟩ := RowL.info (P := P) r
        rw [hty, hi] at hi'
        injection hi' with e1; subst e1
        rw [hz] at hz'
        injection hz' with e2; subst e2
        rw [hi] at hinf
        injection hinf with e3; subst e3
        have hbytes := limM_ok (n := n.toNat) (bytes := i.bytes) (by omega) hbp
        have hn := le_mul_pos (n := n.toNat) hbp
        have hrun := run_make (P := P) w t e i z hu hi hz .i64 .i64 n n h0 (Int.le_refl _) (by
          have : ((i.bytes * n.toNat : Nat) : Int) = (i.bytes : Int) * n := by rw [Int.natCast_mul, Int.toNat_of_nonneg h0]
          rw [← this, Nat.mul_comm]; omega) (by omega)
        have hce : P.cellsOf e = i.size := by simp [Program.cellsOf, hi]
        have hlen : RowT.len r = n.toNat := by rw [RowL.len_eq (P := P), hcel]; simp
        have hcl : cs.length = i.size := by rw [← hzs]; have := congrArg List.length hzc; simpa using this.symm
        have hmc : (madeCells z.cells (n.toNat * i.size)).toList = flat r := by
          simp only [madeCells, flat, hcel, hzs]
          apply List.ext_getElem?
          intro j
          by_cases hj : j < n.toNat * i.size
          · have hd : j / i.size < n.toNat := Nat.div_lt_of_lt_mul (by rw [Nat.mul_comm]; exact hj)
            have hm : j % i.size < i.size := Nat.mod_lt _ hsp
            have hj2 : j = j / i.size * i.size + j % i.size := by rw [Nat.mul_comm]; exact (Nat.div_add_mod j i.size).symm
            have hfa := flatten_at (List.replicate n.toNat cs) (n := i.size) (fun c hc => by rw [List.eq_of_mem_replicate hc]; exact hcl) (j / i.size) (j % i.size) hm
            rw [← hj2] at hfa
            rw [List.getElem?_map, hfa, List.getElem?_replicate, if_pos hd]
            have hzl : z.cells.toList[j % i.size]? = (cs.map Sc.v)[j % i.size]? := by rw [hzc]
            have hzlt : j % i.size < z.cells.size := by rw [hzs]; exact hm
            simp only [Option.bind_some, Array.toList_map, List.getElem?_map]
            rw [List.getElem?_map] at hzl
            rw [← hzl]
            simp [hj, hzlt, Array.getElem?_eq_getElem hzlt]
          · have h3 : ((List.replicate n.toNat cs).flatten.map Sc.v).length ≤ j := by simp [hcl]; omega
            rw [List.getElem?_eq_none h3, List.getElem?_eq_none (by simp; omega)]
        have hown := World.ownsRow_lit (base := w0.heap.size) (e := e) (size := P.cellsOf e) w (madeCells z.cells (n.toNat * i.size)) n.toNat h.heap.frame.size (by simp only [maxLen]; omega) (by rw [size_madeCells, hce])
        obtain ⟨g', hg', hg2⟩ := h.newRows hs1 (World.grownBy_alloc w (.cells (madeCells z.cells (n.toNat * i.size)) e) none) (by simp) (c := .slice (some ⟨w.heap.size, 0, none⟩) n.toNat n.toNat) (by rw [hty, hlen, ← hmc]; exact hown) (fun m hm => .inl (by simp [blkOf] at hm; omega))
        refine eff_n (w' := w.alloc (.cells (madeCells z.cells (n.toNat * i.size)) e)) (by rw [hop]; rfl) (.inl ?_) hg' hg2 (Tch.grown (World.grownBy_alloc w _ none) (by simp))
        rw [hex, he, he2]
        simp only [concV, concW, conc, Sc.v]
        simp [hrun]
      · simp at hp
    · simp at hp
  · simp at hp
theorem wp_append {c : Call} {x y : Operand} {t : TypeId} (hop : o.op = .call c) (hc : c.callee = .builtin .append) (ha : c.args.toList = [x, y]) (hat : c.argTypes.toList = [t, t]) (h : Inv P w0 L g0 hp0 st g a w) {id jd : Nat} {e : TypeId} {r s r' : R} {kk : Nat} {inf : TypeInfo}
    (hx : AI.ev st x = .w (.c (.rw id))) (hy : AI.ev st y = .w (.c (.rw jd))) (hu : P.underlying t = some (.slice e)) (hne : id ≠ jd) (hr : get st.hp id = some (.rows 2 r)) (hs : get st.hp jd = some (.rows kk s)) (hinf : P.info? e = some inf) (hte : e = RowT.ty r)
    (happ : RowT.app r s = some r') (hp : ({ st with nx := st.nx + 1, hp := (st.nx, .rows 2 r') :: (id, .dead) :: st.hp } : St R).put o.dst (.w (.c (.rw st.nx))) = some st') (hl : RowT.len r + RowT.len s < lim inf.bytes) : Eff P w0 L g0 hp0 st st' g a w o := by
  obtain ⟨he, hi, _⟩ := h.ev (x := x) (by rw [hx]; simp)
  obtain ⟨he2, hi2, _⟩ := h.ev (x := y) (by rw [hy]; simp)
  rw [hx] at he hi
  rw [hy] at he2 hi2
  simp only [concV, concW, conc] at he he2
  have hown : w.ownsRow w0.heap.size (RowT.ty r) (P.cellsOf (RowT.ty r)) (g id) (RowT.len r) (flat r) := by simpa [BlkOK] using h.heap.blk _ _ hr
  have hbs := h.heap.blk _ _ hs
  obtain ⟨hcel, hty, hts⟩ := RowL.app_eq (P := P) r s r' happ
  obtain ⟨i, z, hinf', hz, hzs, hsp, hbp, _⟩ := RowL.info (P := P) r
  rw [← hte, hinf] at hinf'
  injection hinf' with e1; subst e1
  have hce : P.cellsOf (RowT.ty r) = inf.size := by rw [← hte]; simp [Program.cellsOf, hinf]
  have hlen : RowT.len r' = RowT.len r + RowT.len s := by rw [RowL.len_eq (P := P), hcel, List.length_append, ← RowL.len_eq (P := P), ← RowL.len_eq (P := P)]
  have hfl : flat r' = flat r ++ flat s := by simp [flat, hcel]
  have hfs : (flat s).length = RowT.len s * inf.size := by rw [flat_length (P := P), hts, hce]
  have hbytes := lim_ok hl hbp
  have hmaxn := le_mul_pos (n := RowT.len r + RowT.len s) hbp
  have hex : execOp a.eval o = (do pure (Next.value (← Builtin.append_ #[t, t] o.type #[g id, g jd]))) := by
    unfold execOp
    rw [hop]
    have h1 : c.args = #[x, y] := by rw [← Array.toArray_toList (xs := c.args), ha]
    have h2 : c.argTypes = #[t, t] := by rw [← Array.toArray_toList (xs := c.argTypes), hat]
    simp only [resolve, hc, h1, h2, List.map_toArray, List.map_cons, List.map_nil, he, he2]
    rfl
  -- what the second one reads
  have run : ∃ v' w', (Builtin.append_ #[t, t] o.type #[g id, g jd]).run P w = .ok v' w' ∧ w'.ownsRow w0.heap.size e inf.size v' (RowT.len r + RowT.len s) (flat r ++ flat s) ∧ w.grownBy w' (g id).ownBlock ∧ (v'.ownBlock = (g id).ownBlock ∨ v'.ownBlock = some w.heap.size) := by
    rw [hce, ← hte] at hown
    by_cases h0 : 0 < RowT.len s
    · obtain ⟨ad, n, cap, hg, hn, hcell⟩ := rowCell hbs h0
      obtain ⟨v', w', h1, h2, h3, _, h5⟩ := run_append_own_at (P := P) w w0.heap.size t o.type e inf z inf.size inf.bytes hu hinf hz rfl rfl hzs hsp (g id) _ _ hown ad (RowT.len s) cap (flat s) hfs hcell
        (fun u hu => by obtain ⟨q, _, rfl⟩ := List.mem_map.1 hu; exact q.one) (by simp only [maxLen]; omega) hbytes h.heap.frame.size
      exact ⟨v', w', by rw [hg, hn]; exact h1, h2, h3, h5⟩
    · have h00 : RowT.len s = 0 := by omega
      have hf0 : flat s = [] := List.eq_nil_of_length_eq_zero (by rw [hfs, h00]; simp)
      have hrun : ∃ A cap, g jd = .slice A 0 cap := by
        cases kk with
        | zero => obtain ⟨A, cap, hg, _⟩ := hbs; exact ⟨A, cap, by rw [hg, h00]⟩
        | succ kk => rcases hbs.2 with ⟨hg, _⟩ | ⟨b, cap, cur, hg, _⟩
                     · exact ⟨none, 0, hg⟩
                     · exact ⟨_, cap, by rw [hg, h00]⟩
      obtain ⟨A, cap, hg⟩ := hrun
      rw [h00, hf0, Nat.add_zero, List.append_nil]
      cases A with
      | none =>
        refine ⟨g id, w, ?_, hown, ⟨rfl, rfl, rfl, Nat.le_refl _, fun _ _ _ => rfl⟩, .inl rfl⟩
        rw [hg]
        rcases hown.2 with ⟨hv, _⟩ | ⟨b, cap', cur, hv, _, _, hnc, _⟩
        · rw [hv]; simp [Builtin.append_, run_underlying hu, sizeOf, typeInfo, hinf, Builtin.lenOf, Builtin.firstCells]
        · rw [hv]; simp [Builtin.append_, run_underlying hu, sizeOf, typeInfo, hinf, Builtin.lenOf, Builtin.firstCells, hnc, storeCells]
      | some ad =>
        obtain ⟨v', w', h1, h2, h3, _, h5⟩ := run_append_own_at (P := P) w w0.heap.size t o.type e inf z inf.size inf.bytes hu hinf hz rfl rfl hzs hsp (g id) _ _ hown ad 0 cap [] (by simp) (by simp) (by simp) (by simp only [maxLen]; omega) (by rw [Nat.add_zero]; exact Nat.le_trans (Nat.mul_le_mul_right _ (Nat.le_add_right _ _)) hbytes) h.heap.frame.size
        simp only [Nat.add_zero, List.append_nil] at h2
        exact ⟨v', w', by rw [hg]; exact h1, h2, h3, h5⟩
  obtain ⟨v', w', hrun, hown', hgr, hat'⟩ := run
  have hown2 : w'.ownsRow w0.heap.size (RowT.ty r') (P.cellsOf (RowT.ty r')) v' (RowT.len r') (flat r') := by rw [hty, hce, hlen, hfl, ← hte]; exact hown'
  have hd := h.heap.drop hr
  have hob : ∀ n, (g id).ownBlock = some n ↔ blkOf (g id) = some n := by
    intro n
    rcases hown.2 with ⟨hv, _⟩ | ⟨b, cap', cur, hv, _⟩ <;> rw [hv] <;> simp [Value.ownBlock, blkOf]
  have hone : v'.oneCell' = true := by rcases hown2.2 with ⟨rfl, _⟩ | ⟨_, _, _, rfl, _⟩ <;> rfl
  have hh := hd.add (b := Blk.rows 2 r') (v := v') (row := (g id).ownBlock) hgr (fun n hn => ⟨h.heap.mutL id _ n hr trivial ((hob n).1 hn), fun i' b' hb' hh' => by
      rw [get_cons] at hb'
      split at hb'
      · simp only [Option.some.injEq] at hb'; subst hb'; exact hh'
      · rename_i hne'
        exact h.heap.sep id _ i' b' n hr hb' hne' trivial ((hob n).1 hn) hh'⟩) (by simp [idsB]) (by simpa [BlkOK, upd_same] using hown2) (fun n hn => ?_) hone
  · have h1 := h.onto hh (Nat.le_succ _) (fun i hi => upd_other g v' (by omega)) ((Same.cons (nx := st.nx) (.inr (.inr (.inl ⟨rfl, r, hr⟩)))).trans (Same.cons (nx := st.nx) (.inl (Nat.le_refl _))) (Nat.le_refl _))
    refine eff_n (v := v') (w' := w') (by rw [hop]; simp [quietOp, hc]) (.inl ?_) (h1.put hp (fun _ => by simp [concV, concW, conc, upd_same]) (by simp [idsV, idsW, idsC]) trivial) (fun i hi => upd_other g v' (by omega)) (Tch.grown hgr fun n hn => ⟨id, by simp [writes, hop, hc, ha, hx, idOf], (hob n).1 hn⟩)
    rw [hex]
    simp [hrun]
  · have hn' : blkOf v' = some n := by simpa [HasB, upd_same] using hn
    have hv' : v'.ownBlock = some n := by rcases hown2.2 with ⟨hv, _⟩ | ⟨b, cap', cur, hv, _⟩ <;> rw [hv] at hn' ⊢ <;> simpa [Value.ownBlock, blkOf] using hn'
    rcases hat' with q | q
    · exact .inr (q.symm.trans hv')
    · rw [hv'] at q; injection q with q; exact .inl (Nat.le_of_eq q.symm)
end
end Go.Proofs.Ytmfgajbkcnlkcaa.AI
namespace Go.Proofs.Ytmfgajbkcnlkcaa.AI
set_option linter.all false
open Go Go.RowKit
section
variable {R : Type} [RowT R] {P : Program} [RowL P R] {w0 : World} {L : Nat → Prop} {g0 : Nat → Value} {hp0 : List (Blk R)} {st st' : St R} {g : Nat → Value} {a : Act} {w w' : World} {o : Oper}
variable {K : Act → World → Prop} {Q : Exit → Act → World → Prop} {ts : List Tst}
theorem ok_some {s : Option (St R)} (h : (match s with
    | some s => some ([], s)
    | none => none) = some (ts, st')) : s = some st' ∧ ts = [] := by
  cases s with
  | none => simp at h
  | some s => simp only [Option.some.injEq, Prod.mk.injEq] at h; exact ⟨by rw [h.2], h.1.symm⟩
theorem wp_call {c : Call} (hop : o.op = .call c) (h : Inv P w0 L g0 hp0 st g a w) (hp : pop P o st = some (ts, st')) (ht : ∀ t ∈ ts, t.p) : Eff P w0 L g0 hp0 st st' g a w o := by
  unfold pop at hp
  rw [hop] at hp
  dsimp only at hp
  split at hp <;> rename_i hc
  · -- len
    split at hp
    · rename_i x t ha hat
      split at hp
      · rename_i id e hv hu
        split at hp
        · rename_i kk r hb
          obtain ⟨hput, _⟩ := ok_some hp
          obtain ⟨he, hi, _⟩ := h.ev (x := x) (by rw [hv]; simp)
          rw [hv] at he hi
          have hg : ∃ A cap, g id = .slice A (RowT.len r) cap := by
            have hbs := h.heap.blk _ _ hb
            cases kk with
            | zero => obtain ⟨A, cap, hg, _⟩ := hbs; exact ⟨A, cap, hg⟩
            | succ kk => rcases hbs.2 with ⟨hg, h0⟩ | ⟨b, cap, cur, hg, _⟩
                         · exact ⟨none, 0, by rw [hg, h0]⟩
                         · exact ⟨_, cap, hg⟩
          obtain ⟨A, cap, hg⟩ := hg
          have hpu : P.underlying t = some (.slice (P.elem t)) := by rw [hu]; simp [Program.elem, hu]
          refine eff_q (v := .int .i64 (RowT.len r : Nat)) (h.put hput (fun _ => rfl) (by simp [idsV, idsW, idsC]) trivial) (ld_here h o) (fun w1 _ => ?_)
          have h1 : c.args = #[x] := by rw [← Array.toArray_toList (xs := c.args), ha]
          have h2 : c.argTypes = #[t] := by rw [← Array.toArray_toList (xs := c.argTypes), hat]
          unfold execOp
          rw [hop]
          simp only [resolve, hc, h1, h2, List.map_toArray, List.map_cons, List.map_nil, he, concV, concW, conc, hg]
          have := run_len_slice (P := P) w1 t o.type A (RowT.len r) cap hpu
          simp [invoke, builtin, this, goInt]
        · simp at hp
      · simp at hp
    · simp at hp
  · -- min
    split at hp
    · rename_i x y ha
      split at hp
      · rename_i k n k' m hv hy
        split at hp
        · rename_i hk
          subst hk
          obtain ⟨hput, _⟩ := ok_some hp
          obtain ⟨he, hi, _⟩ := h.ev (x := x) (by rw [hv]; simp)
          obtain ⟨he2, _, _⟩ := h.ev (x := y) (by rw [hy]; simp)
          rw [hv] at he
          rw [hy] at he2
          refine eff_q (v := .int k (if m < n then m else n)) (h.put hput (fun _ => rfl) (by simp [idsV, idsW, idsC]) trivial) (ld_here h o) (fun w1 _ => ?_)
          have h1 : c.args = #[x, y] := by rw [← Array.toArray_toList (xs := c.args), ha]
          unfold execOp
          rw [hop]
          simp only [resolve, hc, h1, List.map_toArray, List.map_cons, List.map_nil, he, he2, concV, concW, conc, Sc.v]
          simp [invoke, builtin, Builtin.min_, Builtin.min2]
        · simp at hp
      · simp at hp
    · simp at hp
  · -- append
    split at hp
    · rename_i x y t u ha hat
      split at hp
      · rename_i id jd e hv hy hu
        cases hcc : (Nat.beq t u && !Nat.beq id jd) with
        | false => rw [hcc] at hp; simp at hp
        | true =>
          rw [hcc] at hp
          simp only [cond_true] at hp
          simp only [Bool.and_eq_true, Bool.not_eq_true'] at hcc
          obtain ⟨h1, h2⟩ := hcc
          obtain rfl := beq_true h1
          have hne : id ≠ jd := fun e => by rw [e] at h2; simp at h2
          split at hp
          · rename_i r kk s inf hr hs hinf
            cases hbe : Nat.beq e (RowT.ty r) with
            | false => rw [hbe] at hp; simp at hp
            | true =>
              rw [hbe] at hp
              simp only [cond_true] at hp
              split at hp
              · rename_i r' happ
                split at hp
                · rename_i s1 hs1
                  simp only [Option.some.injEq, Prod.mk.injEq] at hp
                  obtain ⟨rfl, rfl⟩ := hp
                  exact wp_append hop hc ha hat h hv hy hu hne hr hs hinf (beq_true hbe) happ hs1 (ht ⟨RowT.len r + RowT.len s < lim inf.bytes, inferInstance⟩ (by simp))
                · simp at hp
              · simp at hp
          · simp at hp
      · simp at hp
    · simp at hp
  · simp at hp
theorem wp_mv {x : Operand} (hop : o.op = .move x ∨ o.op = .assign x) (h : Inv P w0 L g0 hp0 st g a w)
    (hp : mvOf P o st x = some (ts, st')) : Eff P w0 L g0 hp0 st st' g a w o := by
  unfold mvOf at hp
  have hrun : ∀ w1, (execOp a.eval o).run P w1 = .ok (.value (a.eval x)) w1 := fun w1 => by unfold execOp; rcases hop with hop | hop <;> rw [hop] <;> rfl
  have hev := h.ev (x := x)
  cases hv : AI.ev st x with
  | nl =>
    rw [hv] at hp hev
    obtain ⟨he, _, _⟩ := hev (by simp)
    dsimp only at hp
    cases x with
    | const c =>
    dsimp only at hp
    split at hp
    · rename_i e hu
      split at hp
      · rename_i r hr
        obtain ⟨hput, _⟩ := ok_some hp
        obtain ⟨g', hg', hg2⟩ := h.newRows hput (grown_none w) (by simp) (nil_own hr) (by simp [blkOf])
        refine eff_n (w' := w) ?_ (.inl (hrun w)) (by rw [he]; exact hg') hg2 (Tch.refl _ _ _)
        have : ∃ A n k, c = Value.slice A n k := by
          cases c <;> simp only [AI.ev, reduceCtorEq] at hv
          exact ⟨_, _, _, rfl⟩
        obtain ⟨A, n, k, rfl⟩ := this
        rcases hop with hop | hop <;> rw [hop] <;> rfl
      · simp at hp
    · simp at hp
    | _ => simp at hp
  | no => rw [hv] at hp; simp at hp
  | un => rw [hv] at hp; simp at hp
  | w y => rw [hv] at hp hev; obtain ⟨he, hi, hep⟩ := hev (by simp); exact eff_q (h.put (ok_some hp).1 (fun _ => he) hi hep) (ld_here h o) (fun w1 _ => hrun w1)
  | tu y => rw [hv] at hp hev; obtain ⟨he, hi, hep⟩ := hev (by simp); exact eff_q (h.put (ok_some hp).1 (fun _ => he) hi hep) (ld_here h o) (fun w1 _ => hrun w1)
  | pt i1 i2 => rw [hv] at hp hev; obtain ⟨he, hi, hep⟩ := hev (by simp); exact eff_q (h.put (ok_some hp).1 (fun _ => he) hi hep) (ld_here h o) (fun w1 _ => hrun w1)
  | ep i1 i2 i3 i4 => rw [hv] at hp hev; obtain ⟨he, hi, hep⟩ := hev (by simp); exact eff_q (h.put (ok_some hp).1 (fun _ => he) hi hep) (ld_here h o) (fun w1 _ => hrun w1)
theorem pop_wp (h : Inv P w0 L g0 hp0 st g a w) (hp : pop P o st = some (ts, st')) (ht : ∀ t ∈ ts, t.p) : Eff P w0 L g0 hp0 st st' g a w o := by
  have hp0 := hp
  unfold pop at hp
  dsimp only at hp
  split at hp <;> rename_i hop
  · exact wp_mv (.inl hop) h hp
  · exact wp_mv (.inr hop) h hp
  · -- pick
    rename_i c x y
    have hex : execOp a.eval o = (do pure (.value (if ← asBool (a.eval c) then a.eval x else a.eval y))) := by unfold execOp; rw [hop]
    split at hp
    · rename_i hc
      obtain ⟨he, _, _⟩ := h.ev (x := c) (by rw [hc]; simp)
      rw [hc] at he
      split at hp
      · rename_i q hq
        obtain ⟨he2, hi2, _⟩ := h.ev (x := x) (by rw [hq]; simp)
        rw [hq] at he2 hi2
        refine eff_q (h.put (ok_some hp).1 (fun _ => rfl) hi2 trivial) (ld_here h o) (fun w1 _ => ?_)
        rw [hex, he, he2]
        simp [concV, concW, conc, asBool]
      · simp at hp
    · rename_i hc
      obtain ⟨he, _, _⟩ := h.ev (x := c) (by rw [hc]; simp)
      rw [hc] at he
      split at hp
      · rename_i q hq
        obtain ⟨he2, hi2, _⟩ := h.ev (x := y) (by rw [hq]; simp)
        rw [hq] at he2 hi2
        refine eff_q (h.put (ok_some hp).1 (fun _ => rfl) hi2 trivial) (ld_here h o) (fun w1 _ => ?_)
        rw [hex, he, he2]
        simp [concV, concW, conc, asBool]
      · simp at hp
    · simp at hp
  · -- alloc
    split at hp
    · rename_i s1 cs hz; exact wp_alloc hop h hz (ok_some hp).1
    · simp at hp
  · -- box
    split at hp
    · rename_i y hy; exact wp_box hop h hy (ok_some hp).1
    · simp at hp
  · -- build
    rename_i t ps
    split at hp
    · rename_i s1 cs hz
      split at hp
      · rename_i cs' hps
        cases hb : plainS P t cs.length with
        | false => rw [hb] at hp; simp at hp
        | true => rw [hb] at hp; simp only [cond_true] at hp; exact wp_buildOp hop h hz hps hb (ok_some hp).1
      · simp at hp
    · simp at hp
  · -- buildSlice
    rename_i t n ps
    split at hp
    · rename_i e hu
      split at hp
      · rename_i r0 hr0
        split at hp
        · rename_i r hr
          cases hb : (Nat.beq n ps.size && Nat.ble (n * P.cellsOf e) 16777216) with
          | false => rw [hb] at hp; simp at hp
          | true =>
            rw [hb] at hp
            simp only [cond_true] at hp
            simp only [Bool.and_eq_true] at hb
            exact wp_buildSlice hop h hu hr0 hr (beq_true hb.1) (Nat.le_of_ble_eq_true hb.2) (ok_some hp).1
        · simp at hp
      · simp at hp
    · simp at hp
  · exact wp_load hop h hp0
  · exact wp_store hop h hp0
  · -- nilCheck
    rename_i x
    split at hp
    · rename_i id off hv
      split at hp
      · rename_i t cs hb
        obtain ⟨he, hi, hep⟩ := h.ev (x := x) (by rw [hv]; simp)
        rw [hv] at he hi hep
        obtain ⟨b, hg, _, _⟩ := h.heap.blk _ _ hb
        refine eff_q (v := .pointer (some ⟨b, off, none⟩)) (h.put (ok_some hp).1 (fun _ => by simp only [concV, hg]) hi hep) (ld_here h o) (fun w1 _ => ?_)
        unfold execOp
        rw [hop]
        simp only [he, concV, hg]
        rfl
      · simp at hp
    · simp at hp
  · -- binOp
    rename_i op t x y u
    split at hp
    · rename_i ts1 c hc
      split at hp
      · rename_i s1 hs1
        simp only [Option.some.injEq, Prod.mk.injEq] at hp
        obtain ⟨rfl, rfl⟩ := hp
        obtain ⟨h1, h2, h3⟩ := binV_run (g := g) (P := P) (w := w) t hc ht
        have hx : AI.ev st x ≠ .no := fun e => by rw [e] at hc; simp [binV] at hc
        have hy : AI.ev st y ≠ .no := fun e => by rw [e] at hc; unfold binV at hc; split at hc <;> simp_all
        obtain ⟨he, _, _⟩ := h.ev hx
        obtain ⟨he2, _, _⟩ := h.ev hy
        refine eff_q (v := conc g c) (h.put hs1 (fun _ => rfl) (by simp [idsV, idsW, h3]) trivial) (ld_here h o) (fun w1 _ => ?_)
        obtain ⟨h1, h2, _⟩ := binV_run (g := g) (P := P) (w := w1) t hc ht
        unfold execOp
        rw [hop]
        simp only [he, he2]
        simp [h1, h2]
      · simp at hp
    · simp at hp
  · -- unOp
    rename_i op t x
    split at hp
    · rename_i c hc
      obtain ⟨h2, h3⟩ := unV_run (g := g) (P := P) (w := w) hc
      have hx : AI.ev st x ≠ .no := fun e => by rw [e] at hc; simp [unV] at hc
      obtain ⟨he, _, _⟩ := h.ev hx
      refine eff_q (v := conc g c) (h.put (ok_some hp).1 (fun _ => rfl) (by simp [idsV, idsW, h3]) trivial) (ld_here h o) (fun w1 _ => ?_)
      obtain ⟨h2, _⟩ := unV_run (g := g) (P := P) (w := w1) hc
      unfold execOp
      rw [hop]
      simp only [he]
      simp [h2]
    · simp at hp
  · -- convert
    rename_i s d x
    split at hp
    · rename_i k n k1 k2 hv hs hd
      obtain ⟨he, _, _⟩ := h.ev (x := x) (by rw [hv]; simp)
      rw [hv] at he
      rw [wr_eq] at hp
      refine eff_q (v := .int k2 (k2.wrap n)) (h.put (ok_some hp).1 (fun _ => rfl) (by simp [idsV, idsW, idsC]) trivial) (ld_here h o) (fun w1 _ => ?_)
      unfold execOp
      rw [hop]
      simp only [he, concV, concW, conc, Sc.v]
      simp [convert, run_underlying hs, run_underlying hd, Conv.intToInt]
    · simp at hp
  · exact wp_makeSlice hop h hp0 ht
  · exact wp_fieldAddr hop h hp0
  · exact wp_indexAddr hop h hp0 ht
  · -- extract
    rename_i x k
    split at hp
    · rename_i ws hv
      split at hp
      · rename_i y hy
        rw [nth_eq] at hy
        obtain ⟨he, hi, _⟩ := h.ev (x := x) (by rw [hv]; simp)
        rw [hv] at he hi
        refine eff_q (v := concW g y) (h.put (ok_some hp).1 (fun _ => rfl) (fun id hid => hi id (List.mem_flatMap.2 ⟨y, List.mem_of_getElem? hy, by simpa [idsV] using hid⟩)) trivial) (ld_here h o) (fun w1 _ => ?_)
        unfold execOp
        rw [hop]
        simp only [he, concV]
        simp [Instr.extract, hy]
      · simp at hp
    · simp at hp
  · exact wp_call hop h hp0 ht
  · simp at hp
end
end Go.Proofs.Ytmfgajbkcnlkcaa.AI
namespace Go.Proofs.Ytmfgajbkcnlkcaa.AI
set_option linter.all false
open Go Go.RowKit
section
variable {R : Type} [RowT R]
structure ArgsOK (P : Program) (w : World) (g : Nat → Value) (args : List V) (hp : List (Blk R)) : Prop where
  ids : ∀ v ∈ args, ∀ id ∈ idsV v, id < hp.length
  idB : ∀ (i : Nat) b, hp[i]? = some b → ∀ j ∈ idsB b, j < hp.length
  blk : ∀ (i : Nat) b, hp[i]? = some b → BlkOK P g w w.heap.size i b
  sep : ∀ (i : Nat) b (i' : Nat) b' n, hp[i]? = some b → hp[i']? = some b' → i ≠ i' → b.mut → HasB g i n b → ¬ HasB g i' n b'
  one : ∀ i, i < hp.length → (g i).oneCell' = true
  kind : ∀ (i : Nat) b, hp[i]? = some b → b.handed
  plain : ∀ v ∈ args, v ≠ .no ∧ EpOK P (number hp 0) v
def resC (g : Nat → Value) : List W → Value
  | [y] => concW g y
  | ys => .tuple (ys.map (concW g)).toArray
structure ResOK (P : Program) (w : World) (g : Nat → Value) (hp : List (Blk R)) (out : Out R) (c : Value) (w' : World) (g' : Nat → Value) : Prop where
  val : c = resC g' out.res
  keep : ∀ i, i < hp.length → g' i = g i
  ids : ∀ y ∈ out.res, ∀ id ∈ idsW y, id < out.hp.length
  idB : ∀ (i : Nat) b, out.hp[i]? = some b → ∀ j ∈ idsB b, j < out.hp.length
  blk : ∀ (i : Nat) b, out.hp[i]? = some b → BlkOK P g' w' w.heap.size i b
  sep : ∀ (i : Nat) b (i' : Nat) b' n, out.hp[i]? = some b → out.hp[i']? = some b' → i ≠ i' → b.mut → HasB g' i n b → ¬ HasB g' i' n b'
  old : ∀ (i : Nat) b, hp[i]? = some b → ∃ b1, out.hp[i]? = some b1 ∧ SameKind b b1
  new : ∀ (i : Nat) b, hp.length ≤ i → out.hp[i]? = some b → (∃ r, b = .rows 2 r) ∧ ∀ n, HasB g' i n b → w.heap.size ≤ n
  one : ∀ i, i < out.hp.length → (g' i).oneCell' = true
  frame : Fr w (fun n => ∃ (i : Nat) (b : Blk R), hp[i]? = some b ∧ b.mut ∧ HasB g i n b) w'
def Good (P : Program) (f : FuncId) (args : List V) (hp : List (Blk R)) (out : Out R) : Prop :=
  ∀ (w : World) (g : Nat → Value), ArgsOK P w g args hp → Calls P f (args.map (concV g)).toArray w fun e w' => ∃ c g', e = .returned c ∧ ResOK P w g hp out c w' g'
structure Sound (P : Program) (c : Cal R) : Prop where
  fn : ∃ fn, P.funcs[c.f]? = some fn ∧ (fn.name == "runtime.NumGoroutine") = false ∧ fn.body.isNone = false
  ok : ∀ (k : Nat) (args : List V) (hp : List (Blk R)) (Z : Type) (K : Out R → Option Z) (z : Z), c.sem k args hp Z K = some z → ∃ out, K out = some z ∧ Good P c.f args hp out
def seen (g : Nat → Value) (src : List Nat) (i : Nat) : Value := g ((src[i]?).getD 0)
theorem nodup_ok : ∀ {l : List Nat}, nodup l = true → l.Nodup
  | [], _ => List.nodup_nil
  | x :: l, h => by
    simp only [nodup, Bool.and_eq_true, Bool.not_eq_true', List.any_eq_false] at h
    exact List.nodup_cons.2 ⟨fun hm => by have := h.1 x hm; simp at this, nodup_ok h.2⟩
theorem packC_ok {g G : Nat → Value} : ∀ (cs ys : List C) (n : Nat) (ids : List Nat), packC cs n = some (ys, ids) → (∀ k x, ids[k]? = some x → G (n + k) = g x) →
    ys.map (conc G) = cs.map (conc g) ∧ (∀ j ∈ ys.flatMap idsC, n ≤ j ∧ j < n + ids.length) ∧ ys.length = cs.length ∧ (∀ x ∈ ids, x ∈ cs.flatMap idsC)
  | [], ys, n, ids, h, _ => by simp only [packC, Option.some.injEq, Prod.mk.injEq] at h; obtain ⟨rfl, rfl⟩ := h; simp
  | c :: cs, ys, n, ids, h, hG => by
    have step : ∀ (v : Sc), c.val = some v → idsC c = [] → (∃ ys' ids', packC cs n = some (ys', ids') ∧ ys = .sc v :: ys' ∧ ids = ids') → ys.map (conc G) = (c :: cs).map (conc g) ∧ (∀ j ∈ ys.flatMap idsC, n ≤ j ∧ j < n + ids.length) ∧ ys.length = (c :: cs).length ∧ (∀ x ∈ ids, x ∈ (c :: cs).flatMap idsC) := by
      rintro v hv hc ⟨ys', ids', hr, rfl, rfl⟩
      obtain ⟨h1, h2, h3, h4⟩ := packC_ok cs ys' n _ hr hG
      refine ⟨?_, by simpa [idsC] using h2, by simp [h3], fun x hx => by rw [List.flatMap_cons, hc]; exact h4 x hx⟩
      rw [List.map_cons, List.map_cons, h1, val_conc (g := g) hv]; rfl
    have fin : ∀ (v : Sc), c.val = some v → idsC c = [] → packC (c :: cs) n = (match c.val, packC cs n with
        | some v, some (cs, ids) => some (.sc v :: cs, ids)
        | _, _ => none) → ys.map (conc G) = (c :: cs).map (conc g) ∧ (∀ j ∈ ys.flatMap idsC, n ≤ j ∧ j < n + ids.length) ∧ ys.length = (c :: cs).length ∧ (∀ x ∈ ids, x ∈ (c :: cs).flatMap idsC) := by
      intro v hv hc e
      rw [h, hv] at e
      cases hr : packC cs n with
      | none => rw [hr] at e; simp at e
      | some p =>
        obtain ⟨ys', ids'⟩ := p
        rw [hr] at e
        simp only [Option.some.injEq, Prod.mk.injEq] at e
        exact step v hv hc ⟨ys', ids', hr, e.1, e.2⟩
    cases c with
    | rw id =>
      simp only [packC] at h
      split at h
      · rename_i ys' ids' hr
        simp only [Option.some.injEq, Prod.mk.injEq] at h; obtain ⟨rfl, rfl⟩ := h
        obtain ⟨h1, h2, h3, h4⟩ := packC_ok cs ys' (n + 1) ids' hr (fun k x hx => by have := hG (k + 1) x (by simpa using hx); rwa [show n + (k + 1) = n + 1 + k by omega] at this)
        refine ⟨?_, ?_, by simp [h3], ?_⟩
        · rw [List.map_cons, List.map_cons, h1]; simp only [conc]; rw [← hG 0 id (by simp)]; rfl
        · intro j hj
          simp only [List.flatMap_cons, idsC, List.singleton_append, List.mem_cons] at hj
          rcases hj with rfl | hj
          · simp
          · have := h2 j hj; simp only [List.length_cons]; omega
        · intro x hx
          simp only [List.mem_cons] at hx
          rcases hx with rfl | hx
          · simp [idsC]
          · simp only [List.flatMap_cons, List.mem_append]; exact .inr (h4 x hx)
      · simp at h
    | sc v => exact fin v rfl rfl rfl
    | kb b => exact fin (.b b) rfl rfl rfl
    | bo p i => exact fin (.b (@decide p i)) rfl rfl rfl
    | nb p i => exact fin (.b (!@decide p i)) rfl rfl rfl
def Handed (lent : Bool) : Blk R → Blk R → Prop
  | .rows k r, b' => ∃ k', b' = .rows k' r ∧ (k' = 0 ∨ k' = 1 ∧ k ≠ 0 ∧ lent = true)
  | _, _ => False
theorem lendAll_ok {st : St R} {lent : Bool} : ∀ (ids : List Nat) (bs : List (Blk R)), lendAll st lent ids = some bs → bs.length = ids.length ∧ ∀ (k : Nat) x, ids[k]? = some x → ∃ b b', get st.hp x = some b ∧ bs[k]? = some b' ∧ Handed lent b b'
  | [], bs, h => by simp only [lendAll, Option.some.injEq] at h; subst h; simp
  | id :: ids, bs, h => by
    simp only [lendAll] at h
    split at h
    · rename_i b hb
      split at h
      · rename_i b' bs' hl hr
        simp only [Option.some.injEq] at h; subst h
        obtain ⟨h1, h2⟩ := lendAll_ok ids bs' hr
        refine ⟨by simp [h1], fun k x hx => ?_⟩
        cases k with
        | zero =>
          simp only [List.getElem?_cons_zero, Option.some.injEq] at hx; subst hx
          refine ⟨b, b', hb, rfl, ?_⟩
          unfold lend at hl
          split at hl
          · rename_i k r
            cases lent with
            | false => simp only [cond_false, Option.some.injEq] at hl; subst hl; exact ⟨0, rfl, .inl rfl⟩
            | true =>
              simp only [cond_true] at hl
              split at hl
              · simp at hl
              · rename_i hk; simp only [Option.some.injEq] at hl; subst hl; exact ⟨1, rfl, .inr ⟨rfl, hk, rfl⟩⟩
          · simp at hl
        | succ k => simpa using h2 k x (by simpa using hx)
      · simp at h
    · simp at h
theorem own_ro {P : Program} [RowL P R] {g : Nat → Value} {w : World} {base base' id k : Nat} {r : R} (h : BlkOK P g w base id (.rows k r)) : BlkOK P g w base' id (.rows 0 r) := by
  cases k with
  | zero => exact h
  | succ k =>
    have hl := h.1
    rcases h.2 with ⟨hv, h0⟩ | ⟨b, cap, cur, hv, _, hh, h1, h2, _, ht⟩
    · refine ⟨none, 0, by rw [hv, h0], by omega, by omega, fun j u hu => ?_⟩
      have := flat_pos (P := P) hu; omega
    · refine ⟨some ⟨b, 0, none⟩, cap, hv, h1, Nat.le_trans h1 h2, fun j u hu => ⟨_, rfl, ?_⟩⟩
      rw [add_lit, cell_of_row w b _ cur _ _ hh]
      rw [← ht, List.getElem?_take] at hu
      split at hu
      · simpa using hu
      · simp at hu
theorem own_lent {P : Program} {g : Nat → Value} {w : World} {base base' id k : Nat} {r : R} (h : BlkOK P g w base id (.rows (k + 1) r)) : BlkOK P g w base' id (.rows 1 r) := by
  obtain ⟨h1, h2⟩ := h
  refine ⟨h1, ?_⟩
  rcases h2 with h2 | ⟨b, cap, cur, hv, _, h3⟩
  · exact .inl h2
  · exact .inr ⟨b, cap, cur, hv, by simp, h3⟩
def Given (P : Program) (g G : Nat → Value) (w : World) (N i x : Nat) (b b' : Blk R) : Prop :=
  (∀ base, BlkOK P G w base i b') ∧ b'.handed ∧ (∀ n, HasB G i n b' → HasB g x n b) ∧ (b'.mut → b.mut ∧ (∀ n, blkOf (g x) = some n → HasB G i n b')) ∧ (∀ j ∈ idsB b', j < N) ∧
    ((∃ k r k', b = .rows k r ∧ b' = .rows k' r) ∨ ∃ t cs cs', b = .box t cs ∧ b' = .box t cs')
theorem given_rows {P : Program} [RowL P R] {g G : Nat → Value} {w : World} {base N i x : Nat} {lent : Bool} {b b' : Blk R} (hb : BlkOK P g w base x b) (hG : G i = g x) (hh : Handed lent b b') : Given P g G w N i x b b' := by
  cases b with
  | rows k r =>
    obtain ⟨k', rfl, hk⟩ := hh
    have hbG : BlkOK P G w base i (.rows k r) := by
      cases k <;> simpa only [BlkOK, hG] using hb
    rcases hk with rfl | ⟨rfl, hk, _⟩
    · refine ⟨fun base' => own_ro hbG, trivial, fun n hn => ?_, fun hm => hm.elim, by simp [idsB], .inl ⟨k, r, 0, rfl, rfl⟩⟩
      obtain ⟨h1, h2⟩ := hn
      rw [hG] at h1
      cases k with
      | zero => exact ⟨h1, h2⟩
      | succ k => exact h1
    · cases k with
      | zero => exact absurd rfl hk
      | succ k =>
        refine ⟨fun base' => own_lent hbG, trivial, fun n hn => ?_, fun _ => ⟨trivial, fun n hn => ?_⟩, by simp [idsB], .inl ⟨_, r, 1, rfl, rfl⟩⟩
        · have : blkOf (G i) = some n := hn
          rw [hG] at this; exact this
        · show blkOf (G i) = some n
          rw [hG]; exact hn
  | box _ _ => exact hh.elim
  | dead => exact hh.elim
end
end Go.Proofs.Ytmfgajbkcnlkcaa.AI
namespace Go.Proofs.Ytmfgajbkcnlkcaa.AI
set_option linter.all false
open Go Go.RowKit
section
variable {R : Type} [RowT R] {P : Program} [RowL P R] {w0 : World} {L : Nat → Prop} {g0 : Nat → Value} {hp0 : List (Blk R)} {st st' : St R} {g G : Nat → Value} {a : Act} {w w' : World} {o : Oper}
def V.flatV : V → Prop
  | .w _ => True
  | .pt _ _ => True
  | _ => False
theorem packV_ok (h : Inv P w0 L g0 hp0 st g a w) {lent : Bool} {v v' : V} {n N : Nat} {bs : List (Blk R)} {ids : List Nat} (hp : packV st lent v n = some (v', bs, ids)) (hG : ∀ k x, ids[k]? = some x → G (n + k) = g x) (hN : n + ids.length ≤ N) :
    concV G v' = concV g v ∧ (∀ j ∈ idsV v', n ≤ j ∧ j < n + ids.length) ∧ bs.length = ids.length ∧ (∀ k x, ids[k]? = some x → ∃ b b', get st.hp x = some b ∧ bs[k]? = some b' ∧ Given P g G w N (n + k) x b b') ∧ v'.flatV := by
  have many : ∀ {lent : Bool} {ids : List Nat} {bs : List (Blk R)} (m : Nat), lendAll st lent ids = some bs → (∀ k x, ids[k]? = some x → G (m + k) = g x) → bs.length = ids.length ∧ (∀ k x, ids[k]? = some x → ∃ b b', get st.hp x = some b ∧ bs[k]? = some b' ∧ Given P g G w N (m + k) x b b') := by
    intro lent ids bs m hl hG
    obtain ⟨h1, h2⟩ := lendAll_ok ids bs hl
    refine ⟨h1, fun k x hx => ?_⟩
    obtain ⟨b, b', h3, h4, h5⟩ := h2 k x hx
    exact ⟨b, b', h3, h4, given_rows (h.heap.blk _ _ h3) (hG k x hx) h5⟩
  unfold packV at hp
  split at hp
  · rename_i x
    split at hp
    · rename_i y ids' hc
      split at hp
      · rename_i bs' hl
        simp only [Option.some.injEq, Prod.mk.injEq] at hp
        obtain ⟨rfl, rfl, rfl⟩ := hp
        obtain ⟨h1, h2, h3, h4⟩ := packC_ok [x] [y] n _ hc hG
        obtain ⟨h5, h6⟩ := many n hl hG
        refine ⟨?_, by simpa [idsV, idsW] using h2, h5, h6, trivial⟩
        simp only [List.map_cons, List.map_nil, List.cons.injEq, and_true] at h1
        exact h1
      · simp at hp
    · simp at hp
  · rename_i xs
    split at hp
    · rename_i ys ids' hc
      split at hp
      · rename_i bs' hl
        simp only [Option.some.injEq, Prod.mk.injEq] at hp
        obtain ⟨rfl, rfl, rfl⟩ := hp
        obtain ⟨h1, h2, h3, h4⟩ := packC_ok xs ys n _ hc hG
        obtain ⟨h5, h6⟩ := many n hl hG
        exact ⟨by simp only [concV, concW, h1], by simpa [idsV, idsW] using h2, h5, h6, trivial⟩
      · simp at hp
    · simp at hp
  · rename_i id
    split at hp
    · rename_i t cs hb
      split at hp
      · rename_i ys ids' hc
        split at hp
        · rename_i bs' hl
          simp only [Option.some.injEq, Prod.mk.injEq] at hp
          obtain ⟨rfl, rfl, rfl⟩ := hp
          have hG' : ∀ k x, ids'[k]? = some x → G (n + 1 + k) = g x := fun k x hx => by have := hG (k + 1) x (by simpa using hx); rwa [show n + (k + 1) = n + 1 + k by omega] at this
          have hG0 : G n = g id := hG 0 id (by simp)
          obtain ⟨h1, h2, h3, h4⟩ := packC_ok cs ys (n + 1) _ hc hG'
          obtain ⟨h5, h6⟩ := many (n + 1) hl hG'
          obtain ⟨b, hg, hh, hone⟩ := h.heap.blk _ _ hb
          refine ⟨by simp only [concV, hG0], by simp [idsV], by simp [h5], fun k x hx => ?_, trivial⟩
          cases k with
          | zero =>
            simp only [List.getElem?_cons_zero, Option.some.injEq] at hx
            subst hx
            refine ⟨_, _, hb, rfl, fun base => ⟨b, hG0.trans hg, by rw [h1]; exact hh, fun c hc' => ?_⟩, trivial, fun m hm => ?_, fun _ => ⟨trivial, fun m hm => ?_⟩, fun j hj => ?_, .inr ⟨t, cs, ys, rfl, rfl⟩⟩
            · have : conc G c ∈ cs.map (conc g) := by rw [← h1]; exact List.mem_map.2 ⟨c, hc', rfl⟩
              obtain ⟨c1, hc1, e⟩ := List.mem_map.1 this
              rw [← e]; exact hone c1 hc1
            · have : blkOf (G n) = some m := hm
              rw [hG0] at this; exact this
            · show blkOf (G n) = some m
              rw [hG0]; exact hm
            · have := h2 j (by simpa [idsB] using hj)
              simp only [List.length_cons] at hN; omega
          | succ k =>
            obtain ⟨b1, b2, e1, e2, e3⟩ := h6 k x (by simpa using hx)
            exact ⟨b1, b2, e1, by simpa using e2, by rw [show n + (k + 1) = n + 1 + k by omega]; exact e3⟩
        · simp at hp
      · simp at hp
    · simp at hp
  · simp at hp
theorem packV_no {lent : Bool} {v v' : V} {n : Nat} {bs : List (Blk R)} {ids : List Nat} (hp : packV st lent v n = some (v', bs, ids)) : v ≠ .no := by
  rintro rfl; simp [packV] at hp
theorem pack_ok (h : Inv P w0 L g0 hp0 st g a w) {lent : Bool} {N : Nat} : ∀ (xs : List Operand) (n : Nat) (vs : List V) (bs : List (Blk R)) (ids : List Nat), pack st lent xs n = some (vs, bs, ids) → (∀ k x, ids[k]? = some x → G (n + k) = g x) → n + ids.length ≤ N →
    vs.map (concV G) = xs.map a.eval ∧ (∀ v ∈ vs, (∀ j ∈ idsV v, j < N) ∧ v.flatV) ∧ bs.length = ids.length ∧ (∀ k x, ids[k]? = some x → ∃ b b', get st.hp x = some b ∧ bs[k]? = some b' ∧ Given P g G w N (n + k) x b b')
  | [], n, vs, bs, ids, hp, _, _ => by
    simp only [pack, Option.some.injEq, Prod.mk.injEq] at hp
    obtain ⟨rfl, rfl, rfl⟩ := hp
    simp
  | x :: xs, n, vs, bs, ids, hp, hG, hN => by
    simp only [pack] at hp
    split at hp
    · rename_i v bs1 ids1 hv
      split at hp
      · rename_i vs2 bs2 ids2 hr
        simp only [Option.some.injEq, Prod.mk.injEq] at hp
        obtain ⟨rfl, rfl, rfl⟩ := hp
        rw [List.length_append] at hN
        have hG1 : ∀ k x, ids1[k]? = some x → G (n + k) = g x := fun k x hx => hG k x (by
          rw [List.getElem?_append_left]; exact hx
          rcases Nat.lt_or_ge k ids1.length with q | q
          · exact q
          · rw [List.getElem?_eq_none q] at hx; simp at hx)
        have hG2 : ∀ k x, ids2[k]? = some x → G (n + ids1.length + k) = g x := fun k x hx => by
          have := hG (ids1.length + k) x (by rw [List.getElem?_append_right (by omega), show ids1.length + k - ids1.length = k by omega]; exact hx)
          rwa [← Nat.add_assoc] at this
        obtain ⟨h1, h2, h3, h4, h5⟩ := packV_ok (N := N) h hv hG1 (by omega)
        obtain ⟨k1, k2, k3, k4⟩ := pack_ok (N := N) h xs _ vs2 bs2 ids2 hr hG2 (by omega)
        have hev := h.ev (x := x) (packV_no hv)
        refine ⟨by rw [List.map_cons, List.map_cons, k1, h1, hev.1], fun u hu => ?_, by simp [h3, k3], fun k y hy => ?_⟩
        · rcases List.mem_cons.1 hu with rfl | hu
          · exact ⟨fun j hj => by have := h2 j hj; omega, h5⟩
          · exact k2 u hu
        · rcases Nat.lt_or_ge k ids1.length with q | q
          · rw [List.getElem?_append_left q] at hy
            obtain ⟨b, b', e1, e2, e3⟩ := h4 k y hy
            exact ⟨b, b', e1, by rw [List.getElem?_append_left (by omega)]; exact e2, e3⟩
          · rw [List.getElem?_append_right q] at hy
            obtain ⟨b, b', e1, e2, e3⟩ := k4 _ y hy
            exact ⟨b, b', e1, by rw [List.getElem?_append_right (by omega), h3]; exact e2, by rw [show n + k = n + ids1.length + (k - ids1.length) by omega]; exact e3⟩
      · simp at hp
    · simp at hp
structure Packed (P : Program) (st : St R) (g G : Nat → Value) (w : World) (vs : List V) (bs : List (Blk R)) (src : List Nat) : Prop where
  len : bs.length = src.length
  name : ∀ (k x : Nat), src[k]? = some x → G k = g x
  at_ : ∀ (k x : Nat), src[k]? = some x → ∃ b b', get st.hp x = some b ∧ bs[k]? = some b' ∧ Given P g G w src.length k x b b'
  nd : src.Nodup
  args : ArgsOK P w G vs bs
theorem packed (h : Inv P w0 L g0 hp0 st g a w) {lent : Bool} {xs : List Operand} {vs : List V} {bs : List (Blk R)} {src : List Nat} (hp : pack st lent xs 0 = some (vs, bs, src)) (hn : nodup src = true) :
    vs.map (concV (seen g src)) = xs.map a.eval ∧ Packed P st g (seen g src) w vs bs src := by
  have hG : ∀ (k x : Nat), src[k]? = some x → seen g src k = g x := fun k x hx => by simp [seen, hx]
  obtain ⟨h1, h2, h3, h4⟩ := pack_ok (G := seen g src) (N := src.length) h xs 0 vs bs src hp (fun k x hx => by rw [Nat.zero_add]; exact hG k x hx) (by omega)
  simp only [Nat.zero_add] at h4
  have hnd := nodup_ok hn
  have back : ∀ (i : Nat) b', bs[i]? = some b' → ∃ x b, src[i]? = some x ∧ get st.hp x = some b ∧ Given P g (seen g src) w src.length i x b b' := by
    intro i b' hb'
    have hi : i < src.length := by
      rcases Nat.lt_or_ge i bs.length with q | q
      · omega
      · rw [List.getElem?_eq_none q] at hb'; simp at hb'
    obtain ⟨b, b2, e1, e2, e3⟩ := h4 i _ (List.getElem?_eq_getElem hi)
    rw [hb'] at e2; injection e2 with e2; subst e2
    exact ⟨_, b, List.getElem?_eq_getElem hi, e1, e3⟩
  refine ⟨h1, h3, hG, h4, hnd, ?_⟩
  refine ⟨fun v hv id hid => by rw [h3]; exact (h2 v hv).1 id hid, fun i b' hb' j hj => ?_, fun i b' hb' => ?_, fun i b1 i' b1' n hb hb' hne hm hh => ?_, fun i hi => ?_, fun i b' hb' => ?_, fun v hv => ?_⟩
  · obtain ⟨x, b, e1, e2, e3⟩ := back i b' hb'
    rw [h3]; exact e3.2.2.2.2.1 j hj
  · obtain ⟨x, b, e1, e2, e3⟩ := back i b' hb'
    exact e3.1 _
  · obtain ⟨x, b, e1, e2, e3⟩ := back i b1 hb
    obtain ⟨x', b', f1, f2, f3⟩ := back i' b1' hb'
    intro hh'
    have hxx : x ≠ x' := by
      rintro rfl
      have hi : i < src.length := by
        rcases Nat.lt_or_ge i src.length with q | q
        · exact q
        · rw [List.getElem?_eq_none q] at e1; simp at e1
      exact hne ((List.getElem?_inj hi hnd).1 (e1.trans f1.symm))
    exact h.heap.sep x b x' b' n e2 f2 hxx (e3.2.2.2.1 hm).1 (e3.2.2.1 n hh) (f3.2.2.1 n hh')
  · rw [h3] at hi
    rw [hG i _ (List.getElem?_eq_getElem hi)]
    obtain ⟨b, b2, e1, _, _⟩ := h4 i _ (List.getElem?_eq_getElem hi)
    exact h.heap.one _ (h.heap.idH _ _ e1)
  · obtain ⟨x, b, e1, e2, e3⟩ := back i b' hb'
    exact e3.2.1
  · obtain ⟨_, hf⟩ := h2 v hv
    cases v <;> first | exact hf.elim | exact ⟨by simp, trivial⟩
end
end Go.Proofs.Ytmfgajbkcnlkcaa.AI
namespace Go.Proofs.Ytmfgajbkcnlkcaa.AI
set_option linter.all false
open Go Go.RowKit
section
variable {R : Type} [RowT R]
theorem back_lt {src : List Nat} {nx i x : Nat} (h : src[i]? = some x) : back src nx i = x := by simp [back, nth_eq, h]
theorem back_ge {src : List Nat} {nx i : Nat} (h : src.length ≤ i) : back src nx i = nx + (i - src.length) := by simp [back, nth_eq, List.getElem?_eq_none h]
def Taken (src : List Nat) (nx : Nat) (hp hp' : List (Nat × Blk R)) (id : Nat) (o : Option (Blk R)) (b : Blk R) : Prop :=
  match o, b with
  | some (.rows 0 _), .rows 0 _ => get hp' id = get hp id
  | some (.rows 1 _), .rows 1 r => ∃ k r0, get hp id = some (.rows k r0) ∧ get hp' id = some (.rows k r)
  | some (.box t _), .box _ cs => get hp' id = some (.box t (cs.map (backC src nx)))
  | none, .rows 2 r => get hp' id = some (.rows 2 r)
  | _, _ => False
theorem absorbH_ok {src : List Nat} {nx : Nat} : ∀ (l olds : List (Blk R)) (n : Nat) (hp hp' : List (Nat × Blk R)), absorbH src nx l olds n hp = some hp' →
    (∀ i j, n ≤ i → n ≤ j → i < n + l.length → j < n + l.length → back src nx i = back src nx j → i = j) →
    (∀ id, (∀ j, j < l.length → id ≠ back src nx (n + j)) → get hp' id = get hp id) ∧ (∀ j b, l[j]? = some b → Taken src nx hp hp' (back src nx (n + j)) olds[j]? b)
  | [], olds, n, hp, hp', h, _ => by
    simp only [absorbH, Option.some.injEq] at h; subst h
    simp
  | b :: l, olds, n, hp, hp', h, hinj => by
    have hrest : ∀ (hp1 : List (Nat × Blk R)) (olds1 : List (Blk R)), absorbH src nx l olds1 (n + 1) hp1 = some hp' → (∀ id, id ≠ back src nx n → get hp1 id = get hp id) → (∀ j, olds1[j]? = olds[j + 1]?) →
        (get hp1 (back src nx n) = get hp' (back src nx n) → Taken src nx hp hp' (back src nx n) olds[0]? b) →
        (∀ id, (∀ j, j < (b :: l).length → id ≠ back src nx (n + j)) → get hp' id = get hp id) ∧ (∀ j c, (b :: l)[j]? = some c → Taken src nx hp hp' (back src nx (n + j)) olds[j]? c) := by
      intro hp1 olds1 ha hsame hol htk
      obtain ⟨h1, h2⟩ := absorbH_ok l olds1 (n + 1) hp1 hp' ha (fun i j a1 a2 a3 a4 => hinj i j (by omega) (by omega) (by simp; omega) (by simp; omega))
      have hne : ∀ j, j < l.length → back src nx n ≠ back src nx (n + 1 + j) := fun j hj e => by
        have := hinj n (n + 1 + j) (by omega) (by omega) (by simp) (by simp; omega) e; omega
      have h0 := h1 (back src nx n) hne
      refine ⟨fun id hid => ?_, fun j c hc => ?_⟩
      · rw [h1 id (fun j hj => by have := hid (j + 1) (by simpa using hj); rwa [show n + (j + 1) = n + 1 + j by omega] at this)]
        exact hsame id (by have := hid 0 (by simp); simpa using this)
      · cases j with
        | zero =>
          simp only [List.getElem?_cons_zero, Option.some.injEq] at hc; subst hc
          exact htk h0.symm
        | succ j =>
          simp only [List.getElem?_cons_succ] at hc
          have hj : j < l.length := by
            rcases Nat.lt_or_ge j l.length with q | q
            · exact q
            · rw [List.getElem?_eq_none q] at hc; simp at hc
          have h3 := h2 j c hc
          rw [hol j] at h3
          rw [show n + (j + 1) = n + 1 + j by omega]
          have hs : get hp1 (back src nx (n + 1 + j)) = get hp (back src nx (n + 1 + j)) := hsame _ (fun e => hne j hj e.symm)
          unfold Taken at h3 ⊢
          split at h3
          · rw [h3, hs]
          · rw [hs] at h3; exact h3
          · exact h3
          · exact h3
          · exact h3.elim
    simp only [absorbH] at h
    split at h
    · -- read alone
      rename_i r0 olds' r1
      exact hrest hp olds' h (fun _ _ => rfl) (fun j => by simp) (fun e => by simp only [Taken, List.getElem?_cons_zero]; exact e.symm)
    · -- lent
      rename_i r0 olds' r1
      split at h
      · rename_i k r2 hk
        exact hrest _ olds' h (fun id hid => by rw [get_cons, if_neg (fun e => hid e.symm)]) (fun j => by simp) (fun e => by
          simp only [Taken, List.getElem?_cons_zero]
          rw [get_cons, if_pos rfl] at e
          exact ⟨k, r2, hk, e.symm⟩)
      · simp at h
    · -- a variable
      rename_i t0 c0 olds' t1 cs
      exact hrest _ olds' h (fun id hid => by rw [get_cons, if_neg (fun e => hid e.symm)]) (fun j => by simp) (fun e => by
        simp only [Taken, List.getElem?_cons_zero]
        rw [get_cons, if_pos rfl] at e
        exact e.symm)
    · -- new
      rename_i r1
      exact hrest _ [] h (fun id hid => by rw [get_cons, if_neg (fun e => hid e.symm)]) (fun j => by simp) (fun e => by
        simp only [Taken, List.getElem?_nil]
        rw [get_cons, if_pos rfl] at e
        exact e.symm)
    · simp at h
end
end Go.Proofs.Ytmfgajbkcnlkcaa.AI
namespace Go.Proofs.Ytmfgajbkcnlkcaa.AI
set_option linter.all false
open Go Go.RowKit
section
variable {R : Type} [RowT R] {P : Program} [RowL P R] {w0 : World} {L : Nat → Prop} {g0 : Nat → Value} {hp0 : List (Blk R)} {st st' : St R} {g g' : Nat → Value} {a : Act} {w w' : World} {o : Oper}
omit [RowL P R] in
theorem rowVal {w : World} {base id k : Nat} {r : R} (h : BlkOK P g w base id (.rows k r)) : ∃ A cap, g id = .slice A (RowT.len r) cap := by
  cases k with
  | zero => obtain ⟨A, cap, hg, _⟩ := h; exact ⟨A, cap, hg⟩
  | succ k => rcases h.2 with ⟨hg, h0⟩ | ⟨b, cap, cur, hg, _⟩
              · exact ⟨none, 0, by rw [hg, h0]⟩
              · exact ⟨_, cap, hg⟩
def joinG (g g' : Nat → Value) (nx m id : Nat) : Value := if id < nx then g id else g' (m + (id - nx))
theorem getElem?_lt {α : Type} {l : List α} {i : Nat} {x : α} (h : l[i]? = some x) : i < l.length := by
  rcases Nat.lt_or_ge i l.length with q | q
  · exact q
  · rw [List.getElem?_eq_none q] at h; simp at h
theorem call_back {src : List Nat} {vs : List V} {bs : List (Blk R)} {out : Out R} {c : Value} {d : Option Nat} (h : Inv P w0 L g0 hp0 st g a w) (hpk : Packed P st g (seen g src) w vs bs src)
    (hres : ResOK P w (seen g src) bs out c w' g') (hab : absorb st src bs d out = some st') : ∃ g2, Inv P w0 L g0 hp0 st' g2 (a.put d c) w' ∧ (∀ i, i < st.nx → g2 i = g i) ∧ Tch g (callW bs src) w w' ∧ (∀ id, id < st.nx → id ∉ callW bs src → get st'.hp id = get st.hp id) ∧ st.nx ≤ st'.nx ∧ st'.nt = st.nt := by
  unfold absorb at hab
  split at hab
  case h_2 => simp at hab
  rename_i hp' hH
  have hm : bs.length = src.length := hpk.len
  -- the names
  have hsrc : ∀ i, i < src.length → ∃ x b b', src[i]? = some x ∧ get st.hp x = some b ∧ bs[i]? = some b' ∧ Given P g (seen g src) w src.length i x b b' ∧ x < st.nx ∧ back src st.nx i = x := fun i hi => by
    obtain ⟨b, b', e1, e2, e3⟩ := hpk.at_ i _ (List.getElem?_eq_getElem hi)
    exact ⟨_, b, b', List.getElem?_eq_getElem hi, e1, e2, e3, h.heap.idH _ _ e1, back_lt (List.getElem?_eq_getElem hi)⟩
  have hmN : src.length ≤ out.hp.length := by
    rcases Nat.lt_or_ge out.hp.length src.length with q | q
    · obtain ⟨x, b, b', _, _, e3, _⟩ := hsrc _ q
      obtain ⟨b1, f1, _⟩ := hres.old _ _ e3
      have := getElem?_lt f1; omega
    · exact q
  have hinj : ∀ i j, 0 ≤ i → 0 ≤ j → i < 0 + out.hp.length → j < 0 + out.hp.length → back src st.nx i = back src st.nx j → i = j := by
    intro i j _ _ hi hj e
    rcases Nat.lt_or_ge i src.length with qi | qi
    · obtain ⟨x, _, _, x1, _, _, _, x5, x6⟩ := hsrc i qi
      rcases Nat.lt_or_ge j src.length with qj | qj
      · obtain ⟨y, _, _, y1, _, _, _, y5, y6⟩ := hsrc j qj
        exact (List.getElem?_inj qi hpk.nd).1 (by rw [x1, y1, ← x6, ← y6, e])
      · rw [x6, back_ge qj] at e; omega
    · rcases Nat.lt_or_ge j src.length with qj | qj
      · obtain ⟨y, _, _, y1, _, _, _, y5, y6⟩ := hsrc j qj
        rw [y6, back_ge qi] at e; omega
      · rw [back_ge qi, back_ge qj] at e; omega
  obtain ⟨hkeep, htaken⟩ := absorbH_ok out.hp bs 0 st.hp hp' hH hinj
  simp only [Nat.zero_add] at hkeep htaken
  let g2 := joinG g g' st.nx src.length
  have hg2 : ∀ id, id < st.nx → g2 id = g id := fun id hid => by simp only [g2, joinG, if_pos hid]
  have hgB : ∀ i, i < out.hp.length → g2 (back src st.nx i) = g' i := by
    intro i hi
    rcases Nat.lt_or_ge i src.length with q | q
    · obtain ⟨x, _, _, x1, _, _, _, x5, x6⟩ := hsrc i q
      rw [x6, hg2 x x5, hres.keep i (by omega)]
      simp [seen, x1]
    · rw [back_ge q]
      simp only [g2, joinG]
      rw [if_neg (by omega)]
      congr 1; omega
  have hBn : ∀ i, i < out.hp.length → back src st.nx i < st.nx + (out.hp.length - src.length) := by
    intro i hi
    rcases Nat.lt_or_ge i src.length with q | q
    · obtain ⟨x, _, _, x1, _, _, _, x5, x6⟩ := hsrc i q
      omega
    · rw [back_ge q]; omega
  have hcC : ∀ y : C, (∀ id ∈ idsC y, id < out.hp.length) → conc g2 (backC src st.nx y) = conc g' y ∧ ∀ id ∈ idsC (backC src st.nx y), id < st.nx + (out.hp.length - src.length) := by
    intro y hy
    cases y with
    | rw id => have := hy id (by simp [idsC]); exact ⟨hgB id this, by simpa [backC, idsC] using hBn id this⟩
    | _ => exact ⟨rfl, by simp [backC, idsC]⟩
  have hcCs : ∀ ys : List C, (∀ id ∈ ys.flatMap idsC, id < out.hp.length) → (ys.map (backC src st.nx)).map (conc g2) = ys.map (conc g') ∧ ∀ id ∈ (ys.map (backC src st.nx)).flatMap idsC, id < st.nx + (out.hp.length - src.length) := by
    intro ys hy
    refine ⟨?_, fun id hid => ?_⟩
    · rw [List.map_map]
      exact List.map_congr_left fun c hc => (hcC c fun id hid => hy id (List.mem_flatMap.2 ⟨c, hc, hid⟩)).1
    · obtain ⟨c1, hc1, hq⟩ := List.mem_flatMap.1 hid
      obtain ⟨c, hc, rfl⟩ := List.mem_map.1 hc1
      exact (hcC c fun id hid => hy id (List.mem_flatMap.2 ⟨c, hc, hid⟩)).2 id hq
  have hcW : ∀ y : W, (∀ id ∈ idsW y, id < out.hp.length) → concW g2 (backW src st.nx y) = concW g' y ∧ ∀ id ∈ idsW (backW src st.nx y), id < st.nx + (out.hp.length - src.length) := by
    intro y hy
    cases y with
    | c x => exact hcC x hy
    | ag xs => obtain ⟨h1, h2⟩ := hcCs xs hy; exact ⟨by simp only [concW, backW, h1], h2⟩
  -- what has become of each name
  have cls : ∀ id b, get hp' id = some b →
      (get st.hp id = some b ∧ id < st.nx ∧ ∀ i ba, bs[i]? = some ba → ba.mut → id ≠ back src st.nx i) ∨
      (∃ i b0 ba bo, i < src.length ∧ id = back src st.nx i ∧ id < st.nx ∧ get st.hp id = some b0 ∧ bs[i]? = some ba ∧ ba.mut ∧ out.hp[i]? = some bo ∧ Given P g (seen g src) w src.length i id b0 ba ∧
        ((∃ k r r0 rr, b0 = .rows k r0 ∧ b = .rows k r ∧ bo = .rows 1 r ∧ ba = .rows 1 rr) ∨ ∃ t cs t' c0, b = .box t (cs.map (backC src st.nx)) ∧ bo = .box t' cs ∧ ba = .box t c0)) ∨
      (∃ i r, src.length ≤ i ∧ i < out.hp.length ∧ id = back src st.nx i ∧ st.nx ≤ id ∧ out.hp[i]? = some (.rows 2 r) ∧ b = .rows 2 r) := by
    intro id b hb
    by_cases hex : ∃ i, i < out.hp.length ∧ id = back src st.nx i
    · obtain ⟨i, hi, rfl⟩ := hex
      have ht := htaken i _ (List.getElem?_eq_getElem hi)
      rcases Nat.lt_or_ge i src.length with q | q
      · obtain ⟨x, b0, ba, x1, x2, x3, x4, x5, x6⟩ := hsrc i q
        rw [x3] at ht
        rw [x6] at ht hb ⊢
        generalize hbo : out.hp[i] = bo at ht
        have hbo' : out.hp[i]? = some bo := by rw [List.getElem?_eq_getElem hi, hbo]
        unfold Taken at ht
        split at ht
        · -- read alone
          rename_i heq
          injection heq with heq
          rw [hb] at ht
          refine .inl ⟨ht.symm, x5, fun j bj hj hmj => fun e => ?_⟩
          have := hinj i j (by omega) (by omega) (by omega) (by have := getElem?_lt hj; omega) (x6.trans e)
          subst this
          rw [x3] at hj; injection hj with hj; subst hj
          rw [heq] at hmj; exact hmj
        · rename_i rr r heq
          injection heq with heq
          obtain ⟨k, r0, e1, e2⟩ := ht
          rw [hb] at e2; injection e2 with e2
          refine .inr (.inl ⟨i, b0, ba, _, q, x6.symm, x5, x2, x3, by rw [heq]; trivial, hbo', x4, .inl ⟨k, _, r0, _, ?_, e2, rfl, heq⟩⟩)
          rw [x2] at e1; injection e1
        · rename_i t c0 t' cs heq
          injection heq with heq
          rw [hb] at ht; injection ht with ht
          exact .inr (.inl ⟨i, b0, ba, _, q, x6.symm, x5, x2, x3, by rw [heq]; trivial, hbo', x4, .inr ⟨_, _, _, _, ht, rfl, heq⟩⟩)
        · rename_i heq; simp at heq
        · exact ht.elim
      · have hn : bs[i]? = none := List.getElem?_eq_none (by omega)
        obtain ⟨⟨r, hr⟩, _⟩ := hres.new i _ (by omega) (List.getElem?_eq_getElem hi)
        rw [hn, hr] at ht
        simp only [Taken] at ht
        rw [hb] at ht; injection ht with ht
        exact .inr (.inr ⟨i, r, q, hi, rfl, by rw [back_ge q]; omega, by rw [List.getElem?_eq_getElem hi, hr], ht⟩)
    · have hne : ∀ j, j < out.hp.length → id ≠ back src st.nx j := fun j hj e => hex ⟨j, hj, e⟩
      have := hkeep id hne
      rw [hb] at this
      exact .inl ⟨this.symm, h.heap.idH _ _ this.symm, fun i ba hi _ => hne i (by have := getElem?_lt hi; omega)⟩
  -- where it lies
  have lies : ∀ id b n, get hp' id = some b → HasB g2 id n b → (∃ b0, get st.hp id = some b0 ∧ id < st.nx ∧ HasB g id n b0 ∧ (b.mut → b0.mut)) ∨ (∃ i r, src.length ≤ i ∧ i < out.hp.length ∧ id = back src st.nx i ∧ st.nx ≤ id ∧ out.hp[i]? = some (.rows 2 r) ∧ b = .rows 2 r ∧ HasB g' i n (Blk.rows 2 r) ∧ w.heap.size ≤ n) := by
    intro id b n hb hn
    rcases cls id b hb with ⟨e1, e2, _⟩ | ⟨i, b0, ba, bo, e1, e2, e3, e4, e5, e6, e7, e8, e9⟩ | ⟨i, r, e1, e2, e3, e4, e5, e6⟩
    · exact .inl ⟨b, e1, e2, (HasB.name (hg2 id e2)).1 hn, fun h => h⟩
    · refine .inl ⟨b0, e4, e3, ?_, fun _ => (e8.2.2.2.1 e6).1⟩
      have hbl : blkOf (g id) = some n := by
        rw [← hg2 id e3]
        rcases e9 with ⟨k, r, r0, rr, f1, f2, f3, f4⟩ | ⟨t, cs, t', c0, f1, f2, f3⟩
        · subst f2
          cases k with
          | zero => exact hn.1
          | succ k => exact hn
        · subst f1; exact hn
      exact e8.2.2.1 n ((e8.2.2.2.1 e6).2 n hbl)
    · subst e6
      have hn' : HasB g' i n (Blk.rows 2 r) := by
        have : blkOf (g2 id) = some n := hn
        rw [e3, hgB i e2] at this; exact this
      exact .inr ⟨i, r, e1, e2, e3, e4, e5, rfl, hn', (hres.new i _ (by omega) e5).2 n hn'⟩
  have hsize := h.heap.frame.size
  have hframe : ∀ k, k < w.heap.size → (∀ id b0, get st.hp id = some b0 → b0.mut → ¬ HasB g id k b0) → w'.heap[k]? = w.heap[k]? := by
    intro k hk hno
    refine hres.frame.block k hk ?_
    rintro ⟨i, ba, hi, hma, hna⟩
    obtain ⟨x, b0, ba', x1, x2, x3, x4, x5, x6⟩ := hsrc i (by have := getElem?_lt hi; omega)
    rw [hi] at x3; injection x3 with x3; subst x3
    exact hno x b0 x2 (x4.2.2.2.1 hma).1 (x4.2.2.1 k hna)
  have hh : HOK P w0 L (st.nx + (out.hp.length - src.length)) hp' g2 w' := by
    refine ⟨fun id b hb j hj => ?_, fun id b hb => ?_, fun id b hb => ?_, fun id b id' b' n hb hb' hne hmut hn hn' => ?_, fun id b n hb hmut hn => ?_, fun id hid => ?_, ?_⟩
    · rcases cls id b hb with ⟨e1, e2, _⟩ | ⟨i, b0, ba, bo, e1, e2, e3, e4, e5, e6, e7, e8, e9⟩ | ⟨i, r, e1, e2, e3, e4, e5, e6⟩
      · have := h.heap.idB id b e1 j hj; omega
      · rcases e9 with ⟨k, r, r0, rr, f1, f2, f3, f4⟩ | ⟨t, cs, t', c0, f1, f2, f3⟩
        · subst f2; simp [idsB] at hj
        · subst f1
          exact (hcCs cs (fun id hid => hres.idB i _ e7 id (by rw [f2]; exact hid))).2 j hj
      · subst e6; simp [idsB] at hj
    · rcases cls id b hb with ⟨e1, e2, _⟩ | ⟨i, b0, ba, bo, e1, e2, e3, e4, e5, e6, e7, e8, e9⟩ | ⟨i, r, e1, e2, e3, e4, e5, e6⟩
      · omega
      · omega
      · rw [e3]; exact hBn i e2
    · rcases cls id b hb with ⟨e1, e2, e3⟩ | ⟨i, b0, ba, bo, e1, e2, e3, e4, e5, e6, e7, e8, e9⟩ | ⟨i, r, e1, e2, e3, e4, e5, e6⟩
      · refine ((h.heap.blk id b e1).name (hg2 id e2) fun j hj => hg2 j (h.heap.idB id b e1 j hj)).move fun n hn => ?_
        rw [HasB.name (hg2 id e2)] at hn
        refine hres.frame.block n (h.heap.lt e1 hn) ?_
        rintro ⟨i, ba, hi, hma, hna⟩
        obtain ⟨x, b0, ba', x1, x2, x3, x4, x5, x6⟩ := hsrc i (by have := getElem?_lt hi; omega)
        rw [hi] at x3; injection x3 with x3; subst x3
        exact h.heap.sep x b0 id b n x2 e1 (fun e => e3 i ba hi hma (by rw [x6, e])) (x4.2.2.2.1 hma).1 (x4.2.2.1 n hna) hn
      · have hgi : g2 id = g' i := by rw [e2]; exact hgB i (by omega)
        have hbo := hres.blk i bo e7
        rcases e9 with ⟨k, r, r0, rr, f1, f2, f3, f4⟩ | ⟨t, cs, t', c0, f1, f2, f3⟩
        · subst f1; subst f2; subst f3
          cases k with
          | zero => exact ((e8.2.2.2.1 e6).1).elim
          | succ k =>
            have hold := h.heap.blk id _ e4
            obtain ⟨q1, q2⟩ := hbo
            refine ⟨q1, ?_⟩
            rw [hgi]
            rcases q2 with q2 | ⟨bb, cap, cur, q2, _, q3⟩
            · exact .inl q2
            · refine .inr ⟨bb, cap, cur, q2, ?_, q3⟩
              rcases hold.2 with ⟨p2, _⟩ | ⟨b1, cap1, cur1, p2, p3, _⟩
              · rw [← hg2 id e3, hgi, q2] at p2; simp at p2
              · rw [← hg2 id e3, hgi, q2] at p2
                simp only [Value.slice.injEq, Option.some.injEq, Addr.mk.injEq, and_true, true_and] at p2
                rw [p2.1]; exact p3
        · subst f1; subst f2; subst f3
          obtain ⟨bb, q1, q2, q3⟩ := hbo
          obtain ⟨b1, s1, s2⟩ := hres.old i _ e5
          rw [e7] at s1; injection s1 with s1; subst s1
          have ht : t = t' := s2
          subst ht
          obtain ⟨c1, c2⟩ := hcCs cs (fun id hid => hres.idB i _ e7 id hid)
          refine ⟨bb, hgi.trans q1, by rw [c1]; exact q2, fun y hy => ?_⟩
          obtain ⟨y0, hy0, rfl⟩ := List.mem_map.1 hy
          rw [(hcC y0 (fun id hid => hres.idB i _ e7 id (List.mem_flatMap.2 ⟨y0, hy0, hid⟩))).1]
          exact q3 y0 hy0
      · subst e6
        have hgi : g2 id = g' i := by rw [e3]; exact hgB i e2
        have hbo := hres.blk i _ e5
        obtain ⟨q1, q2⟩ := hbo
        refine ⟨q1, ?_⟩
        rw [hgi]
        rcases q2 with q2 | ⟨bb, cap, cur, q2, q4, q3⟩
        · exact .inl q2
        · exact .inr ⟨bb, cap, cur, q2, Nat.le_trans (by simpa using hsize) (by simpa using q4), q3⟩
    · rcases lies id b n hb hn with ⟨b0, e1, e2, e3, e4⟩ | ⟨i, r, e1, e2, e3, e4, e5, e6, e7, e8⟩
      · rcases lies id' b' n hb' hn' with ⟨b0', f1, f2, f3, f4⟩ | ⟨i', r', f1, f2, f3, f4, f5, f6, f7, f8⟩
        · exact h.heap.sep id b0 id' b0' n e1 f1 hne (e4 hmut) e3 f3
        · have := h.heap.lt e1 e3; omega
      · rcases lies id' b' n hb' hn' with ⟨b0', f1, f2, f3, f4⟩ | ⟨i', r', f1, f2, f3, f4, f5, f6, f7, f8⟩
        · have := h.heap.lt f1 f3; omega
        · exact hres.sep i _ i' _ n e5 f5 (fun e => hne (by rw [e3, f3, e])) trivial e7 f7
    · rcases lies id b n hb hn with ⟨b0, e1, e2, e3, e4⟩ | ⟨i, r, e1, e2, e3, e4, e5, e6, e7, e8⟩
      · exact h.heap.mutL id b0 n e1 (e4 hmut) e3
      · exact .inl (Nat.le_trans hsize e8)
    · rcases Nat.lt_or_ge id st.nx with q | q
      · rw [hg2 id q]; exact h.heap.one id q
      · have : g2 id = g' (src.length + (id - st.nx)) := by simp only [g2, joinG]; rw [if_neg (by omega)]
        rw [this]; exact hres.one _ (by omega)
    · refine ⟨hres.frame.os.trans h.heap.frame.os, hres.frame.tape.trans h.heap.frame.tape, hres.frame.output.trans h.heap.frame.output, Nat.le_trans hsize hres.frame.size, fun k hk hl => ?_⟩
      rw [hframe k (by omega) fun id b0 hb0 hm0 hn0 => ?_]
      · exact h.heap.frame.block k hk hl
      · rcases h.heap.mutL id b0 k hb0 hm0 hn0 with q | q
        · omega
        · exact hl q
  have hsame1 : ∀ id k r, id < st.nx → get hp' id = some (.rows k r) → ∃ k0 r0, get st.hp id = some (.rows k0 r0) ∧ RowT.len r = RowT.len r0 ∧ RowT.ty r = RowT.ty r0 := by
    intro id k r hid hr
    rcases cls id _ hr with ⟨e1, e2, e3⟩ | ⟨i, b0, ba, bo, e1, e2, e3, e4, e5, e6, e7, e8, e9⟩ | ⟨i, r', e1, e2, e3, e4, e5, e6⟩
    · exact ⟨k, r, e1, rfl, rfl⟩
    · rcases e9 with ⟨k', r1, r0, rr, f1, f2, f3, f4⟩ | ⟨t, cs, t', c0, f1, f2, f3⟩
      · injection f2 with f5 f6
        subst f5; subst f6; subst f1; subst f3; subst f4
        refine ⟨k, r0, e4, ?_, ?_⟩
        · obtain ⟨A, cap, q1⟩ := rowVal (h.heap.blk id _ e4)
          obtain ⟨A', cap', q2⟩ := rowVal (hres.blk i _ e7)
          have : g2 id = g' i := by rw [e2]; exact hgB i (by omega)
          rw [hg2 id e3, q1, q2] at this
          injection this with _ t2 _
          exact t2.symm
        · obtain ⟨b1, s1, s2⟩ := hres.old i _ e5
          rw [e7] at s1; injection s1 with s1; subst s1
          have hrr : r0 = rr := by
            rcases e8.2.2.2.2.2 with ⟨k1, r1, k2, z1, z2⟩ | ⟨t, cs, cs', z1, _⟩
            · injection z1 with _ z3; injection z2 with _ z4; rw [z3, z4]
            · simp at z1
          rw [hrr]; exact s2.2.symm
      · simp at f1
    · omega
  have hsame2 : ∀ id b, id < st.nx → get st.hp id = some b → b.handed → ∃ b', get hp' id = some b' ∧ SameKind b b' := by
    intro id b hid hb hhand
    by_cases hex : ∃ i, i < out.hp.length ∧ id = back src st.nx i
    · obtain ⟨i, hi, rfl⟩ := hex
      have q : i < src.length := by
        rcases Nat.lt_or_ge i src.length with q | q
        · exact q
        · rw [back_ge q] at hid; omega
      have ht := htaken i _ (List.getElem?_eq_getElem hi)
      obtain ⟨x, b0, ba, x1, x2, x3, x4, x5, x6⟩ := hsrc i q
      obtain ⟨bo, s1, s2⟩ := hres.old i _ x3
      have hbo : out.hp[i] = bo := by rw [List.getElem?_eq_getElem hi] at s1; injection s1
      rw [x3, hbo] at ht
      rw [x6] at ht hb ⊢
      rw [x2] at hb; injection hb with hb; subst hb
      have hbb := x4.2.2.2.2.2
      unfold Taken at ht
      split at ht
      · rw [x2] at ht; exact ⟨b0, ht, SameKind.refl hhand.dead⟩
      · rename_i rr r heq
        injection heq with heq
        obtain ⟨k, r0, e1, e2⟩ := ht
        rw [x2] at e1; injection e1 with e1; subst e1; subst heq
        refine ⟨_, e2, rfl, ?_⟩
        rcases hbb with ⟨k1, r1, k2, z1, z2⟩ | ⟨t, cs, cs', z1, _⟩
        · injection z1 with _ z3; injection z2 with _ z4
          rw [z3, ← z4]; exact s2.2
        · simp at z1
      · rename_i t c0 t' cs heq
        injection heq with heq
        subst heq
        refine ⟨_, ht, ?_⟩
        rcases hbb with ⟨k1, r1, k2, z1, z2⟩ | ⟨t, cs, cs', z1, z2⟩
        · simp at z2
        · injection z2 with z3 z4; subst z1; exact z3.symm
      · rename_i heq; simp at heq
      · exact ht.elim
    · exact ⟨b, by rw [hkeep id (fun j hj e => hex ⟨j, hj, e⟩)]; exact hb, SameKind.refl hhand.dead⟩
  have hsame : Same st.nx st.hp hp' := ⟨hsame1, hsame2⟩
  have h1 := h.onto hh (Nat.le_add_right _ _) hg2 hsame
  have hroM : ∀ (i : Nat) b, bs.all isRo = true → bs[i]? = some b → ¬ b.mut := by
    intro i b hall hb hm
    have := List.all_eq_true.1 hall b (List.mem_of_getElem? hb)
    cases b with
    | rows k r => cases k with
      | zero => exact hm
      | succ k => simp [isRo] at this
    | box _ _ => simp [isRo] at this
    | dead => exact hm
  have htch : Tch g (callW bs src) w w' := by
    refine ⟨hres.frame.os, hres.frame.tape, hres.frame.output, hres.frame.size, fun k hk hno => hres.frame.block k hk ?_⟩
    rintro ⟨i, ba, hi, hma, hna⟩
    unfold callW at hno
    cases hall : bs.all isRo with
    | true => exact hroM i ba hall hi hma
    | false =>
      rw [hall] at hno
      obtain ⟨x, b0, ba', x1, x2, x3, x4, x5, x6⟩ := hsrc i (by have := getElem?_lt hi; omega)
      rw [hi] at x3; injection x3 with x3; subst x3
      refine hno x (List.mem_of_getElem? x1) ?_
      have hh0 := x4.2.2.1 k hna
      have hm0 := (x4.2.2.2.1 hma).1
      cases b0 with
      | rows kk r => cases kk with
        | zero => exact hm0.elim
        | succ kk => exact hh0
      | box _ _ => exact hh0
      | dead => exact hm0.elim
  have hold : ∀ id, id < st.nx → id ∉ callW bs src → get hp' id = get st.hp id := by
    intro id hid hnot
    by_cases hex : ∃ i, i < out.hp.length ∧ id = back src st.nx i
    · obtain ⟨i, hi, rfl⟩ := hex
      have q : i < src.length := by
        rcases Nat.lt_or_ge i src.length with q | q
        · exact q
        · rw [back_ge q] at hid; omega
      obtain ⟨x, b0, ba, x1, x2, x3, x4, x5, x6⟩ := hsrc i q
      have ht := htaken i _ (List.getElem?_eq_getElem hi)
      unfold callW at hnot
      cases hall : bs.all isRo with
      | false =>
        rw [hall, x6] at hnot
        exact absurd (List.mem_of_getElem? x1) hnot
      | true =>
        have hro : ∃ r, ba = .rows 0 r := by
          have := List.all_eq_true.1 hall ba (List.mem_of_getElem? x3)
          cases ba with
          | rows k r => cases k with
            | zero => exact ⟨r, rfl⟩
            | succ k => simp [isRo] at this
          | box _ _ => simp [isRo] at this
          | dead => simp [isRo] at this
        obtain ⟨r, rfl⟩ := hro
        rw [x3] at ht
        cases hbo : out.hp[i] with
        | rows k' r' =>
          rw [hbo] at ht
          cases k' with
          | zero => exact ht
          | succ _ => simp [Taken] at ht
        | box _ _ => rw [hbo] at ht; simp [Taken] at ht
        | dead => rw [hbo] at ht; simp [Taken] at ht
    · exact hkeep id (fun j hj e => hex ⟨j, hj, e⟩)
  have hst : st'.hp = hp' ∧ st'.nx = st.nx + (out.hp.length - src.length) ∧ st'.nt = st.nt := by
    cases d with
    | none => simp only [St.put, Option.some.injEq] at hab; subst hab; exact ⟨rfl, rfl, rfl⟩
    | some d =>
      simp only [St.put] at hab
      cases hb : Nat.blt d st.nt with
      | false => rw [hb] at hab; simp at hab
      | true => rw [hb] at hab; simp only [cond_true, Option.some.injEq] at hab; subst hab; exact ⟨rfl, rfl, rfl⟩
  refine ⟨g2, h1.put hab (fun _ => ?_) ?_ ?_, hg2, htch, fun id h1 h2 => by rw [hst.1]; exact hold id h1 h2, by rw [hst.2.1]; omega, hst.2.2⟩
  · rw [hres.val]
    have key : ∀ l : List W, (∀ y ∈ l, ∀ id ∈ idsW y, id < out.hp.length) → resC g' l = concV g2 (resV src st.nx l) := by
      intro l hl
      match l, hl with
      | [], _ => rfl
      | [y], hl => simp only [resC, resV, concV]; exact ((hcW y (hl y (by simp))).1).symm
      | y :: y2 :: ys, hl =>
        simp only [resC, resV, concV, List.map_map]
        congr 2
        exact List.map_congr_left fun z hz => ((hcW z (hl z hz)).1).symm
    exact key out.res hres.ids
  · unfold resV
    split
    · rename_i y hy
      exact (hcW y (fun id hid => hres.ids y (by rw [hy]; simp) id hid)).2
    · rename_i ys hys
      intro id hid
      simp only [idsV] at hid
      obtain ⟨y1, hy1, hq⟩ := List.mem_flatMap.1 hid
      obtain ⟨y, hy, rfl⟩ := List.mem_map.1 hy1
      exact (hcW y (fun id hid => hres.ids y hy id hid)).2 id hq
  · unfold resV; split <;> trivial
end
end Go.Proofs.Ytmfgajbkcnlkcaa.AI
namespace Go.Proofs.Ytmfgajbkcnlkcaa.AI
set_option linter.all false
open Go Go.RowKit
section
variable {R : Type} [RowT R] {P : Program} [RowL P R] {w0 : World} {L : Nat → Prop} {g0 : Nat → Value} {hp0 : List (Blk R)} {st st' : St R} {g g' : Nat → Value} {a : Act} {w w' : World}
theorem idx_ok : ∀ {l : List Nat} {n i j : Nat}, idx l n i = some j → i ≤ j ∧ l[j - i]? = some n
  | [], n, i, j, h => by simp [idx] at h
  | x :: l, n, i, j, h => by
    simp only [idx] at h
    cases hb : Nat.beq x n with
    | true =>
      rw [hb] at h
      simp only [cond_true, Option.some.injEq] at h
      subst h
      exact ⟨Nat.le_refl _, by simp [beq_true hb]⟩
    | false =>
      rw [hb] at h
      simp only [cond_false] at h
      obtain ⟨h1, h2⟩ := idx_ok h
      refine ⟨by omega, ?_⟩
      rw [show j - i = (j - (i + 1)) + 1 by omega, List.getElem?_cons_succ]; exact h2
theorem idx0 {l : List Nat} {n j : Nat} (h : idx l n 0 = some j) : l[j]? = some n := (idx_ok h).2
theorem toC_ok {l : List Nat} {c c' : C} (h : toC l c = some c') : conc (seen g l) c' = conc g c ∧ ∀ id ∈ idsC c', id < l.length := by
  cases c with
  | rw id =>
    simp only [toC] at h
    cases hi : idx l id 0 with
    | none => rw [hi] at h; simp at h
    | some j =>
      rw [hi] at h
      simp only [Option.map_some, Option.some.injEq] at h
      subst h
      have := idx0 hi
      exact ⟨by simp [conc, seen, this], by simpa [idsC] using getElem?_lt this⟩
  | _ => simp only [toC, fixC, Option.some.injEq] at h; subst h; exact ⟨rfl, by simp [idsC]⟩
theorem toCs_ok {l : List Nat} : ∀ {cs cs' : List C}, toCs l cs = some cs' → cs'.map (conc (seen g l)) = cs.map (conc g) ∧ ∀ id ∈ cs'.flatMap idsC, id < l.length
  | [], cs', h => by simp only [toCs, Option.some.injEq] at h; subst h; simp
  | c :: cs, cs', h => by
    simp only [toCs] at h
    split at h
    · rename_i c1 cs1 h1 h2
      simp only [Option.some.injEq] at h; subst h
      obtain ⟨e1, e2⟩ := toC_ok (g := g) h1
      obtain ⟨f1, f2⟩ := toCs_ok h2
      refine ⟨by rw [List.map_cons, List.map_cons, e1, f1], fun id hid => ?_⟩
      simp only [List.flatMap_cons, List.mem_append] at hid
      rcases hid with q | q
      · exact e2 id q
      · exact f2 id q
    · simp at h
theorem toW_ok {l : List Nat} {y y' : W} (h : toW l y = some y') : concW (seen g l) y' = concW g y ∧ ∀ id ∈ idsW y', id < l.length := by
  cases y with
  | c x =>
    simp only [toW] at h
    cases hx : toC l x with
    | none => rw [hx] at h; simp at h
    | some x' => rw [hx] at h; simp only [Option.map_some, Option.some.injEq] at h; subst h; exact toC_ok hx
  | ag xs =>
    simp only [toW] at h
    cases hx : toCs l xs with
    | none => rw [hx] at h; simp at h
    | some x' =>
      rw [hx] at h; simp only [Option.map_some, Option.some.injEq] at h; subst h
      obtain ⟨e1, e2⟩ := toCs_ok (g := g) hx
      exact ⟨by simp only [concW, e1], e2⟩
theorem toV_ok {l : List Nat} {v v' : V} (h : toV l v = some v') : (v' = .no ∨ (v ≠ .no ∧ concV (seen g l) v' = concV g v)) ∧ (∀ id ∈ idsV v', id < l.length) ∧ ∀ hp : List (Nat × Blk R), EpOK P hp v' := by
  cases v with
  | w y =>
    simp only [toV] at h
    cases hx : toW l y with
    | none => rw [hx] at h; simp at h
    | some x' =>
      rw [hx] at h; simp only [Option.map_some, Option.some.injEq] at h; subst h
      obtain ⟨e1, e2⟩ := toW_ok (g := g) hx
      exact ⟨.inr ⟨by simp, e1⟩, e2, fun _ => trivial⟩
  | pt id off =>
    simp only [toV] at h
    cases hx : idx l id 0 with
    | none => rw [hx] at h; simp at h
    | some j =>
      rw [hx] at h; simp only [Option.map_some, Option.some.injEq] at h; subst h
      have := idx0 hx
      exact ⟨.inr ⟨by simp, by simp [concV, seen, this]⟩, by simpa [idsV] using getElem?_lt this, fun _ => trivial⟩
  | no => simp only [toV, Option.some.injEq] at h; subst h; exact ⟨.inl rfl, by simp [idsV], fun _ => trivial⟩
  | _ => simp [toV] at h
theorem toTm_ok {l : List Nat} : ∀ {ts : List Nat} {tm : List (Nat × V)}, toTm l st ts = some tm → ∀ t v, get tm t = some v → toV l (st.v t) = some v
  | [], tm, h, t, v, hv => by simp only [toTm, Option.some.injEq] at h; subst h; simp [get] at hv
  | t0 :: ts, tm, h, t, v, hv => by
    simp only [toTm] at h
    split at h
    · rename_i v1 tm1 h1 h2
      simp only [Option.some.injEq] at h; subst h
      rw [get_cons] at hv
      split at hv
      · rename_i e; subst e; simp only [Option.some.injEq] at hv; subst hv; exact h1
      · exact toTm_ok h2 t v hv
    · simp at h
def Told (l : List Nat) : Blk R → Blk R → Prop
  | .rows k r, .rows k' r' => k = k' ∧ r = r'
  | .box t cs, .box t' cs' => t = t' ∧ toCs l cs = some cs'
  | _, _ => False
theorem toHp_ok {l0 : List Nat} : ∀ {l : List Nat} {n : Nat} {hp : List (Nat × Blk R)}, toHp l0 st l n = some hp →
    (∀ i b, get hp i = some b → n ≤ i ∧ ∃ id b0, l[i - n]? = some id ∧ get st.hp id = some b0 ∧ Told l0 b0 b) ∧ (∀ (k : Nat) id, l[k]? = some id → ∃ b b0, get hp (n + k) = some b ∧ get st.hp id = some b0 ∧ Told l0 b0 b) ∧ (vals2 hp).length = l.length ∧ (∀ (k : Nat), (vals2 hp)[k]? = get hp (n + k))
  | [], n, hp, h => by simp only [toHp, Option.some.injEq] at h; subst h; simp [get, vals2]
  | id :: l, n, hp, h => by
    simp only [toHp] at h
    split at h
    · rename_i b0 hb0
      split at h
      · rename_i b' hp1 h1 h2
        simp only [Option.some.injEq] at h; subst h
        have htold : Told l0 b0 b' := by
          cases b0 with
          | rows k r => simp only [toBlk, Option.some.injEq] at h1; subst h1; exact ⟨rfl, rfl⟩
          | box t cs =>
            simp only [toBlk] at h1
            cases hx : toCs l0 cs with
            | none => rw [hx] at h1; simp at h1
            | some c => rw [hx] at h1; simp only [Option.map_some, Option.some.injEq] at h1; subst h1; exact ⟨rfl, hx⟩
          | dead => simp [toBlk] at h1
        obtain ⟨e1, e2, e3, e4⟩ := toHp_ok h2
        refine ⟨fun i b hb => ?_, fun k x hx => ?_, by simp [vals2, e3], fun k => ?_⟩
        · rw [get_cons] at hb
          split at hb
          · rename_i e; subst e; simp only [Option.some.injEq] at hb; subst hb
            exact ⟨Nat.le_refl _, id, b0, by simp, hb0, htold⟩
          · obtain ⟨f1, id', b1, f2, f3, f4⟩ := e1 i b hb
            exact ⟨by omega, id', b1, by rw [show i - n = (i - (n + 1)) + 1 by omega, List.getElem?_cons_succ]; exact f2, f3, f4⟩
        · cases k with
          | zero => simp only [List.getElem?_cons_zero, Option.some.injEq] at hx; subst hx; exact ⟨b', b0, by rw [get_cons, if_pos (Nat.add_zero n).symm], hb0, htold⟩
          | succ k =>
            obtain ⟨b, b1, f1, f2, f3⟩ := e2 k x (by simpa using hx)
            exact ⟨b, b1, by rw [get_cons, if_neg (by omega), show n + (k + 1) = n + 1 + k by omega]; exact f1, f2, f3⟩
        · cases k with
          | zero => rw [get_cons]; simp [vals2]
          | succ k => rw [get_cons, if_neg (by omega), show n + (k + 1) = n + 1 + k by omega, ← e4 k]; simp [vals2]
      · simp at h
    · simp at h
theorem firsts_ok : ∀ {l : List Nat} {i n : Nat}, firsts l i n = true → ∀ j, j < n → l[j]? = some (i + j)
  | _, _, 0, _, j, hj => by omega
  | [], _, n + 1, h, _, _ => by simp [firsts] at h
  | x :: l, i, n + 1, h, j, hj => by
    simp only [firsts, Bool.and_eq_true] at h
    cases j with
    | zero => simp [beq_true h.1]
    | succ j => rw [List.getElem?_cons_succ, firsts_ok h.2 j (by omega)]; congr 1; omega
theorem named_ok {l : List Nat} {na : Nat} (h : named l na = true) : l.Nodup ∧ ∀ j, j < na → l[j]? = some j := by
  simp only [named, Bool.and_eq_true] at h
  refine ⟨nodup_ok h.1, fun j hj => by simpa using firsts_ok h.2 j hj⟩
theorem Told.ok {l : List Nat} {i id base : Nat} {b0 b : Blk R} (h : Told l b0 b) (hi : l[i]? = some id) (hb : BlkOK P g w base id b0) : BlkOK P (seen g l) w base i b ∧ (∀ n, HasB (seen g l) i n b ↔ HasB g id n b0) ∧ (b.mut ↔ b0.mut) ∧ (∀ j ∈ idsB b, j < l.length) ∧ SameKind b0 b := by
  have hg : seen g l i = g id := by simp [seen, hi]
  cases b0 with
  | rows k r =>
    cases b with
    | rows k' r' =>
      obtain ⟨rfl, rfl⟩ := h
      refine ⟨?_, fun n => ?_, ?_, by simp [idsB], rfl, rfl⟩
      · cases k <;> simpa only [BlkOK, hg] using hb
      · cases k <;> simp only [HasB, hg]
      · cases k <;> exact Iff.rfl
    | box _ _ => exact h.elim
    | dead => exact h.elim
  | box t cs =>
    cases b with
    | box t' cs' =>
      obtain ⟨rfl, hc⟩ := h
      obtain ⟨e1, e2⟩ := toCs_ok (g := g) hc
      obtain ⟨bb, q1, q2, q3⟩ := hb
      refine ⟨⟨bb, hg.trans q1, by rw [e1]; exact q2, fun c hc' => ?_⟩, fun n => by simp only [HasB, hg], Iff.rfl, by simpa [idsB] using e2, rfl⟩
      have : conc (seen g l) c ∈ cs.map (conc g) := by rw [← e1]; exact List.mem_map.2 ⟨c, hc', rfl⟩
      obtain ⟨c1, hc1, e⟩ := List.mem_map.1 this
      rw [← e]; exact q3 c1 hc1
    | rows _ _ => exact h.elim
    | dead => exact h.elim
  | dead => cases b <;> exact h.elim
theorem rename_ok (h : HOK P w0 L st.nx st.hp g w) {l : List Nat} {hp : List (Nat × Blk R)} (hl : l.Nodup) (hh : toHp l st l 0 = some hp) : HOK P w0 L l.length hp (seen g l) w := by
  obtain ⟨e1, e2, _, _⟩ := toHp_ok hh
  have fact : ∀ i b, get hp i = some b → ∃ id b0, l[i]? = some id ∧ get st.hp id = some b0 ∧ Told l b0 b := fun i b hb => by
    obtain ⟨_, id, b0, f1, f2, f3⟩ := e1 i b hb; exact ⟨id, b0, by simpa using f1, f2, f3⟩
  refine ⟨fun i b hb => ?_, fun i b hb => ?_, fun i b hb => ?_, fun i b i' b' n hb hb' hne hm hn hn' => ?_, fun i b n hb hm hn => ?_, fun i hi => ?_, h.frame⟩
  · obtain ⟨id, b0, f1, f2, f3⟩ := fact i b hb
    exact (f3.ok f1 (h.blk id b0 f2)).2.2.2.1
  · obtain ⟨id, b0, f1, f2, f3⟩ := fact i b hb
    exact getElem?_lt f1
  · obtain ⟨id, b0, f1, f2, f3⟩ := fact i b hb
    exact (f3.ok f1 (h.blk id b0 f2)).1
  · obtain ⟨id, b0, f1, f2, f3⟩ := fact i b hb
    obtain ⟨id', b0', k1, k2, k3⟩ := fact i' b' hb'
    have t1 := f3.ok f1 (h.blk id b0 f2)
    have t2 := k3.ok k1 (h.blk id' b0' k2)
    exact h.sep id b0 id' b0' n f2 k2 (fun e => hne ((List.getElem?_inj (getElem?_lt f1) hl).1 (by rw [f1, k1, e]))) (t1.2.2.1.1 hm) ((t1.2.1 n).1 hn) ((t2.2.1 n).1 hn')
  · obtain ⟨id, b0, f1, f2, f3⟩ := fact i b hb
    have t1 := f3.ok f1 (h.blk id b0 f2)
    exact h.mutL id b0 n f2 (t1.2.2.1.1 hm) ((t1.2.1 n).1 hn)
  · obtain ⟨b, b0, f1, f2, f3⟩ := e2 i _ (List.getElem?_eq_getElem hi)
    have := h.one _ (h.idH _ _ f2)
    simpa [seen, List.getElem?_eq_getElem hi] using this
theorem canon_ok (h : Inv P w0 L g0 hp0 st g a w) {live : List Nat} (hc : canon live st = some st') : ∃ g', Inv P w0 L g0 hp0 st' g' a w := by
  unfold canon at hc
  dsimp only at hc
  generalize List.foldl (fun l id => addIds l (boxIds st id)) _ _ = l at hc
  cases hn : named l st.na with
  | false => rw [hn] at hc; simp at hc
  | true =>
    rw [hn] at hc
    simp only [cond_true] at hc
    obtain ⟨hnd, hfst⟩ := named_ok hn
    split at hc
    · rename_i tm hp h1 h2
      simp only [Option.some.injEq] at hc; subst hc
      have hh := rename_ok h.heap hnd h2
      obtain ⟨e1, e2, _, _⟩ := toHp_ok h2
      refine ⟨seen g l, h.defers, h.size, fun t v hv hno => ?_, fun t v hv => ?_, fun t v hv => ?_, fun i b0 hb0 => ?_, fun id hid => ?_, ?_, h.hpna, hh⟩
      · have ht := toTm_ok h1 t v hv
        obtain ⟨k1, k2, k3⟩ := toV_ok (P := P) (R := R) (g := g) ht
        rcases k1 with k1 | ⟨k0, k1⟩
        · exact absurd k1 hno
        · rw [k1]
          unfold St.v at k0 ⊢
          cases hg : get st.tm t with
          | none => rw [hg] at k0; exact absurd rfl k0
          | some u => rw [hg] at k0; exact h.tm t u hg k0
      · exact (toV_ok (P := P) (R := R) (g := g) (toTm_ok h1 t v hv)).2.1
      · exact (toV_ok (P := P) (R := R) (g := g) (toTm_ok h1 t v hv)).2.2 _
      · obtain ⟨b, f1, f2, f3⟩ := h.keep i b0 hb0
        have hi : i < st.na := by rw [← h.hpna]; exact getElem?_lt hb0
        obtain ⟨b', b1, k1, k2, k3⟩ := e2 i i (hfst i hi)
        rw [f1] at k2; injection k2 with k2; subst k2
        have hs := (k3.ok (hfst i hi) (h.heap.blk i b f1)).2.2.2.2
        exact ⟨b', by simpa using k1, f2.trans hs, f3.same hs⟩
      · have := hfst id hid
        simp only [seen, this, Option.getD_some]; exact h.args id hid
      · rcases Nat.eq_zero_or_pos st.na with q | q
        · show st.na ≤ l.length; omega
        · have := getElem?_lt (hfst (st.na - 1) (by omega)); show st.na ≤ l.length; omega
    · simp at hc
end
end Go.Proofs.Ytmfgajbkcnlkcaa.AI
namespace Go.Proofs.Ytmfgajbkcnlkcaa.AI
set_option linter.all false
open Go Go.RowKit
section
variable {R : Type} [RowT R] {P : Program} [RowL P R] {w0 : World} {L : Nat → Prop} {g0 : Nat → Value} {hp0 : List (Blk R)} {st st' : St R} {g g' : Nat → Value} {a : Act} {w w' : World} {o : Oper}
theorem run_loadVarS {t : TypeId} {fs : Array Field} (hu : P.underlying t = some (.struct fs)) {ad : Addr} {cs : List Value} (hl : P.cellsOf t = cs.length) (h : ∀ j v, cs[j]? = some v → w.cell? (ad.add j) = some v) :
    (loadVar t ad).run P w = .ok (.agg cs.toArray) w := by
  obtain ⟨i, hi⟩ := info_of hu
  simp [loadVar, run_isAgg_s hu, run_size hi, hl, run_loadCells_list w ad cs h]
theorem resultsAll_ok (h : Inv P w0 L g0 hp0 st g a w) (f : ResultVar → Go.Sem Value) (hf : ∀ u, f (.tmp u) = pure (a.tmps.getD u undef)) (hc : ∀ x t, f (.cell x t) = (do loadVar t (← asAddr (a.tmps.getD x undef)))) :
    ∀ (rs : List ResultVar) (ys : List W), resultsAll P st rs = some ys → (rs.mapM f).run P w = .ok (ys.map (concW g)) w
  | [], ys, hr => by simp only [resultsAll, Option.some.injEq] at hr; subst hr; simp
  | r :: rs, ys, hr => by
    simp only [resultsAll] at hr
    split at hr
    · rename_i y ys' h1 h2
      simp only [Option.some.injEq] at hr; subst hr
      have ih := resultsAll_ok h f hf hc rs ys' h2
      have tmv : ∀ t v, st.v t = v → v ≠ .no → a.tmps.getD t undef = concV g v := fun t v hv hno => by
        have := h.ev (x := .tmp t) (by simp only [AI.ev]; rw [hv]; exact hno)
        simp only [AI.ev, Act.eval] at this
        rw [hv] at this; exact this.1
      have one : (f r).run P w = .ok (concW g y) w := by
        unfold results1 at h1
        split at h1
        · rename_i t
          split at h1
          · rename_i y' hy
            simp only [Option.some.injEq] at h1; subst h1
            rw [hf, tmv t _ hy (by simp)]; rfl
          · simp at h1
        · rename_i t ty
          split at h1
          · rename_i id hv
            split at h1
            · rename_i t' cs hb
              cases hcc : (isStruct P ty && Nat.beq ty t' && Nat.beq (P.cellsOf ty) cs.length) with
              | false => rw [hcc] at h1; simp at h1
              | true =>
                rw [hcc] at h1
                simp only [cond_true, Option.some.injEq] at h1; subst h1
                simp only [Bool.and_eq_true] at hcc
                obtain ⟨fs, hu⟩ := isStruct_of hcc.1.1
                obtain ⟨b, hg, hh, _⟩ := h.heap.blk _ _ hb
                rw [hc, tmv t _ hv (by simp)]
                simp only [concV, hg]
                have := run_loadVarS (P := P) (w := w) hu (ad := ⟨b, 0, none⟩) (cs := cs.map (conc g)) (by rw [beq_true hcc.2]; simp) (fun j v hj => by rw [add_lit, cell_of_row w b _ _ _ _ hh]; simpa using hj)
                simp [asAddr, this, concW]
            · simp at h1
          · simp at h1
      rw [List.mapM_cons]
      simp [one, ih]
    · simp at hr
theorem results_ok (h : Inv P w0 L g0 hp0 st g a w) {fn : Func} {ys : List W} (hr : resultsAll P st fn.results.toList = some ys) : (results fn a.tmps).run P w = .ok (resC g ys) w := by
  unfold results
  rw [Array.mapM_eq_mapM_toList]
  simp only [Sem.run_bind, Sem.run_map]
  rw [resultsAll_ok h _ (fun _ => rfl) (fun _ _ => rfl) _ ys hr]
  match ys with
  | [] => simp [resC]
  | [y] => simp [resC]
  | y :: y2 :: ys => simp [resC]
theorem toWs_ok {l : List Nat} : ∀ {ys ws : List W}, toWs l ys = some ws → ws.map (concW (seen g l)) = ys.map (concW g) ∧ ∀ y ∈ ws, ∀ id ∈ idsW y, id < l.length
  | [], ws, h => by simp only [toWs, Option.some.injEq] at h; subst h; simp
  | y :: ys, ws, h => by
    simp only [toWs] at h
    split at h
    · rename_i y1 ws1 h1 h2
      simp only [Option.some.injEq] at h; subst h
      obtain ⟨e1, e2⟩ := toW_ok (g := g) h1
      obtain ⟨f1, f2⟩ := toWs_ok h2
      refine ⟨?_, fun z hz => ?_⟩
      · rw [List.map_cons, List.map_cons, e1, f1]
      · rcases List.mem_cons.1 hz with rfl | hz
        · exact e2
        · exact f2 z hz
    · simp at h
theorem resC_congr {G G' : Nat → Value} {ys zs : List W} (h : ys.map (concW G) = zs.map (concW G')) : resC G ys = resC G' zs := by
  match ys, zs, h with
  | [], [], _ => rfl
  | [y], [z], h => simpa [resC] using h
  | y :: y2 :: ys, z :: z2 :: zs, h => simp only [resC, h]
  | [], _ :: _, h => simp at h
  | _ :: _, [], h => simp at h
  | [_], _ :: _ :: _, h => simp at h
  | _ :: _ :: _, [_], h => simp at h
theorem allOwn_ok {na : Nat} : ∀ {hp : List (Nat × Blk R)}, allOwn hp na = true → ∀ i b, get hp i = some b → na ≤ i → ∃ r, b = .rows 2 r
  | [], _, i, b, h, _ => by simp [get] at h
  | (j, c) :: hp, ha, i, b, h, hi => by
    simp only [allOwn, Bool.and_eq_true, Bool.or_eq_true] at ha
    rw [get_cons] at h
    split at h
    · rename_i e; subst e; simp only [Option.some.injEq] at h; subst h
      rcases ha.1 with q | q
      · have : j + 1 ≤ na := by simpa [Nat.blt] using q
        omega
      · split at q
        · rename_i r; exact ⟨r, rfl⟩
        · simp at q
    · exact allOwn_ok ha.2 i b h hi
theorem finish_ok (h : Inv P w0 (fun n => ∃ (i : Nat) (b : Blk R), hp0[i]? = some b ∧ b.mut ∧ HasB g0 i n b) g0 hp0 st g a w) {fn : Func} {out : Out R} (hf : finish P fn.results.toList st = some out) :
    ∃ c g', (results fn a.tmps).run P w = .ok c w ∧ ResOK P w0 g0 hp0 out c w g' := by
  unfold finish at hf
  split at hf
  case h_2 => simp at hf
  rename_i ys hys
  dsimp only at hf
  generalize List.foldl (fun l y => addIds l (idsW y)) _ ys = l at hf
  split at hf
  case h_2 => simp at hf
  rename_i ws hp h1 h2
  cases hn : (named l st.na && allOwn hp st.na) with
  | false => rw [hn] at hf; simp at hf
  | true =>
    rw [hn] at hf
    simp only [cond_true, Option.some.injEq] at hf; subst hf
    simp only [Bool.and_eq_true] at hn
    obtain ⟨hnd, hfst⟩ := named_ok hn.1
    have hh := rename_ok h.heap hnd h2
    obtain ⟨e1, e2, e3, e4⟩ := toHp_ok h2
    obtain ⟨k1, k2⟩ := toWs_ok (g := g) h1
    have hget : ∀ i : Nat, (vals2 hp)[i]? = get hp i := fun i => by simpa using e4 i
    have hnal : st.na ≤ l.length := by
      rcases Nat.eq_zero_or_pos st.na with q | q
      · omega
      · have := getElem?_lt (hfst (st.na - 1) (by omega)); omega
    have hs : ∀ i, i < hp0.length → seen g l i = g0 i := fun i hi => by
      rw [h.hpna] at hi
      simp only [seen, hfst i hi, Option.getD_some]; exact h.args i hi
    refine ⟨resC g ys, seen g l, results_ok h hys, resC_congr k1.symm, hs, ?_, ?_, ?_, ?_, ?_, ?_, ?_, h.heap.frame⟩
    · intro y hy id hid
      show id < (vals2 hp).length
      rw [e3]; exact k2 y hy id hid
    · intro i b hb j hj
      show j < (vals2 hp).length
      rw [e3]; exact hh.idB i b (by rw [← hget]; exact hb) j hj
    · intro i b hb; exact hh.blk i b (by rw [← hget]; exact hb)
    · intro i b i' b' n hb hb' hne hm hn'
      exact hh.sep i b i' b' n (by rw [← hget]; exact hb) (by rw [← hget]; exact hb') hne hm hn'
    · intro i b hb
      obtain ⟨b1, f1, f2, f3⟩ := h.keep i b hb
      have hi : i < st.na := by rw [← h.hpna]; exact getElem?_lt hb
      obtain ⟨b', b2, m1, m2, m3⟩ := e2 i i (hfst i hi)
      rw [f1] at m2; injection m2 with m2; subst m2
      refine ⟨b', by show (vals2 hp)[i]? = _; rw [hget]; simpa using m1, f2.trans (m3.ok (hfst i hi) (h.heap.blk i b1 f1)).2.2.2.2⟩
    · intro i b hi hb
      rw [h.hpna] at hi
      have hb' : get hp i = some b := by rw [← hget]; exact hb
      obtain ⟨r, rfl⟩ := allOwn_ok hn.2 i b hb' hi
      refine ⟨⟨r, rfl⟩, fun n hn' => ?_⟩
      have hbk := hh.blk i _ hb'
      have hn2 : blkOf (seen g l i) = some n := hn'
      rcases hbk.2 with ⟨q, _⟩ | ⟨b, cap, cur, q, q2, _⟩
      · rw [q] at hn2; simp [blkOf] at hn2
      · rw [q] at hn2; simp only [blkOf, Option.some.injEq] at hn2; rw [← hn2]; simpa using q2
    · intro i hi
      exact hh.one i (by have : i < (vals2 hp).length := hi; rwa [e3] at this)
theorem put_st {d : Option Nat} {v : V} (h : st.put d v = some st') : st'.hp = st.hp ∧ st'.nx = st.nx ∧ st'.nt = st.nt ∧ st'.na = st.na := by
  cases d with
  | none => simp only [St.put, Option.some.injEq] at h; subst h; exact ⟨rfl, rfl, rfl, rfl⟩
  | some d =>
    simp only [St.put] at h
    cases hb : Nat.blt d st.nt with
    | false => rw [hb] at h; simp at h
    | true => rw [hb] at h; simp only [cond_true, Option.some.injEq] at h; subst h; exact ⟨rfl, rfl, rfl, rfl⟩
theorem tests_ok {Z : Type} {z : Z} {x : Option Z} : ∀ {ts : List Tst}, tests ts x = some z → (∀ t ∈ ts, t.p) ∧ x = some z
  | [], h => ⟨by simp, h⟩
  | t :: ts, h => by
    simp only [tests] at h
    by_cases ht : t.p
    · rw [@if_pos _ t.i ht] at h
      obtain ⟨h1, h2⟩ := tests_ok h
      exact ⟨fun u hu => by rcases List.mem_cons.1 hu with rfl | hu; exact ht; exact h1 u hu, h2⟩
    · rw [@if_neg _ t.i ht] at h; simp at h
theorem find_ok : ∀ {O : List (Cal R)} {f : FuncId} {c : Cal R}, find O f = some c → c ∈ O ∧ c.f = f
  | [], f, c, h => by simp [find] at h
  | o :: O, f, c, h => by
    simp only [find] at h
    cases hb : Nat.beq o.f f with
    | true => rw [hb] at h; simp only [cond_true, Option.some.injEq] at h; subst h; exact ⟨List.mem_cons_self .., beq_true hb⟩
    | false => rw [hb] at h; obtain ⟨h1, h2⟩ := find_ok (by simpa using h); exact ⟨List.mem_cons_of_mem _ h1, h2⟩
def Keeps (wr : List Nat) (st st' : St R) : Prop := (∀ id, id < st.nx → id ∉ wr → get st'.hp id = get st.hp id) ∧ st.nx ≤ st'.nx
def Does (P : Program) (w0 : World) (L : Nat → Prop) (g0 : Nat → Value) (hp0 : List (Blk R)) (o : Oper) (wr : List Nat) (st st' : St R) : Prop :=
  ∀ (g : Nat → Value) (a : Act) (w : World), Inv P w0 L g0 hp0 st g a w → Keeps wr st st' ∧ (∀ (K : Act → World → Prop) (Q : Exit → Act → World → Prop), (∀ g' a' w', Inv P w0 L g0 hp0 st' g' a' w' → (∀ i, i < st.nx → g' i = g i) → Tch g wr w w' → K a' w') → o.wp P a w K Q) ∧
    (quietOp o.op = true → ∃ v, Inv P w0 L g0 hp0 st' g (a.put o.dst v) w ∧ ∀ w1, LdOK P st g w0.heap.size o w1 → (execOp a.eval o).run P w1 = .ok (.value v) w1)
theorem Keeps.put {wr : List Nat} {d : Option Nat} {v : V} (h : st.put d v = some st') : Keeps wr st st' := by
  obtain ⟨h1, h2, _⟩ := put_st h; exact ⟨fun id _ _ => by rw [h1], by omega⟩
theorem Keeps.rows {wr : List Nat} {d : Option Nat} {r : R} (h : AI.newRows st d r = some st') : Keeps wr st st' := by
  obtain ⟨h1, h2, _⟩ := put_st h
  exact ⟨fun id hid _ => by rw [h1]; show get ((st.nx, _) :: st.hp) id = _; rw [get_cons, if_neg (by omega)], by rw [h2]; exact Nat.le_succ _⟩
theorem Keeps.box {wr : List Nat} {d : Option Nat} {t : TypeId} {cs : List C} (h : AI.newBox st d t cs = some st') : Keeps wr st st' := by
  obtain ⟨h1, h2, _⟩ := put_st h
  exact ⟨fun id hid _ => by rw [h1]; show get ((st.nx, _) :: st.hp) id = _; rw [get_cons, if_neg (by omega)], by rw [h2]; exact Nat.le_succ _⟩
theorem Keeps.trans {wr : List Nat} {s0 s1 s2 : St R} (a : Keeps wr s0 s1) (b : Keeps wr s1 s2) : Keeps wr s0 s2 :=
  ⟨fun id h1 h2 => (b.1 id (Nat.lt_of_lt_of_le h1 a.2) h2).trans (a.1 id h1 h2), Nat.le_trans a.2 b.2⟩
theorem zeroC_keeps : ∀ (vs : List Value) (fs : List Field) (nx nx' : Nat) (cs : List C) (es : List (Nat × Blk R)), zeroC P nx vs fs = some (nx', cs, es) → nx ≤ nx' ∧ ∀ (hp : List (Nat × Blk R)) id, id < nx → get (es ++ hp) id = get hp id
  | [], fs, nx, nx', cs, es, h => by
    cases fs with
    | cons f fs => simp [zeroC] at h
    | nil => simp only [zeroC, Option.some.injEq, Prod.mk.injEq] at h; obtain ⟨rfl, rfl, rfl⟩ := h; simp
  | v :: vs, fs, nx, nx', cs, es, h => by
    cases fs with
    | nil => cases v <;> first | (simp [zeroC] at h; done) | (rename_i A n c; cases A <;> first | (simp [zeroC] at h; done) | (cases n <;> first | (simp [zeroC] at h; done) | (cases c <;> simp [zeroC] at h)))
    | cons f fs =>
      cases v <;> first | (simp [zeroC] at h; done) | skip
      case bool b =>
        simp only [zeroC] at h
        split at h
        · rename_i h1; simp only [Option.some.injEq, Prod.mk.injEq] at h; obtain ⟨rfl, rfl, rfl⟩ := h; exact zeroC_keeps vs fs _ _ _ _ h1
        · simp at h
      case int k n =>
        simp only [zeroC] at h
        split at h
        · rename_i h1; simp only [Option.some.injEq, Prod.mk.injEq] at h; obtain ⟨rfl, rfl, rfl⟩ := h; exact zeroC_keeps vs fs _ _ _ _ h1
        · simp at h
      case slice A n c =>
        cases A with
        | some _ => simp [zeroC] at h
        | none => cases n with
          | succ _ => simp [zeroC] at h
          | zero => cases c with
            | succ _ => simp [zeroC] at h
            | zero =>
              simp only [zeroC] at h
              split at h
              · split at h
                · rename_i h1
                  simp only [Option.some.injEq, Prod.mk.injEq] at h; obtain ⟨rfl, rfl, rfl⟩ := h
                  obtain ⟨h2, h3⟩ := zeroC_keeps vs fs _ _ _ _ h1
                  refine ⟨by omega, fun hp id hid => ?_⟩
                  rw [List.append_assoc, h3 _ id (by omega)]
                  show get ((nx, _) :: hp) id = _
                  rw [get_cons, if_neg (by omega)]
                · simp at h
              · simp at h
theorem zeroOf_keeps {wr : List Nat} {t : TypeId} {cs : List C} (h : zeroOf P t st = some (st', cs)) : Keeps wr st st' := by
  unfold zeroOf at h
  split at h
  · split at h
    · split at h
      · rename_i h1
        simp only [Option.some.injEq, Prod.mk.injEq] at h; obtain ⟨rfl, rfl⟩ := h
        obtain ⟨h2, h3⟩ := zeroC_keeps _ _ _ _ _ _ h1
        exact ⟨fun id hid _ => h3 _ id hid, h2⟩
      · simp at h
    · simp at h
  · simp at h
theorem Keeps.turn {wr : List Nat} {id : Nat} {b : Blk R} (h : id ∈ wr) : Keeps wr st { st with hp := (id, b) :: st.hp } :=
  ⟨fun i _ hi => by show get ((id, b) :: st.hp) i = _; rw [get_cons, if_neg (fun (e : id = i) => hi (by rw [← e]; exact h))], Nat.le_refl _⟩
omit [RowL P R] in
theorem Keeps.mv {wr : List Nat} {x : Operand} {ts : List Tst} (h : mvOf P o st x = some (ts, st')) : Keeps wr st st' := by
  unfold mvOf at h
  repeat' split at h
  all_goals first
    | (simp at h; done)
    | (simp only [Option.some.injEq, Prod.mk.injEq] at h; obtain ⟨_, rfl⟩ := h; first | exact Keeps.put (by assumption) | exact Keeps.rows (by assumption))
theorem Keeps.app {wr : List Nat} {id : Nat} {r' : R} {d : Option Nat} {v : V} (hid : id ∈ wr) (h : ({ st with nx := st.nx + 1, hp := (st.nx, .rows 2 r') :: (id, .dead) :: st.hp } : St R).put d v = some st') : Keeps wr st st' := by
  refine Keeps.trans ⟨fun i hi hn => ?_, ?_⟩ (Keeps.put h)
  · show get ((st.nx, _) :: (id, _) :: st.hp) i = _
    rw [get_cons, if_neg (by omega), get_cons, if_neg (fun (e : id = i) => hn (by rw [← e]; exact hid))]
  · exact Nat.le_succ _
theorem pop_keeps {ts : List Tst} (h : pop P o st = some (ts, st')) : Keeps (writes st o) st st' := by
  unfold pop at h
  dsimp only at h
  simp only [Bool.cond_eq_ite] at h
  repeat' split at h
  all_goals first
    | (simp at h; done)
    | exact Keeps.mv h
    | (simp only [Option.some.injEq, Prod.mk.injEq] at h; obtain ⟨_, rfl⟩ := h
       first
       | exact Keeps.put (by assumption)
       | exact Keeps.box (by assumption)
       | exact Keeps.rows (by assumption)
       | exact (zeroOf_keeps (by assumption)).trans (Keeps.box (by assumption))
       | exact (zeroOf_keeps (by assumption)).trans (Keeps.put (by assumption))
       | exact Keeps.turn (by simp_all [writes, idOf])
       | (refine Keeps.app ?_ (by assumption); simp_all [writes, idOf]))
    | skip
end
end Go.Proofs.Ytmfgajbkcnlkcaa.AI
