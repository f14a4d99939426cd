/- What the law FnExactBooksOk leans on, cut out of this repo's own texts by a program of this repo: plain functions, the walks that tie the Go calls to them, the law over lists and numbers, and the row. -/
import Derived.Test.YtmfgajbkcnlkcaaZFnExactBooksOk4
import Derived.RowKit
import Derived.IntWalk
set_option maxHeartbeats 8000000
set_option maxRecDepth 100000
namespace Go.Proofs.Ytmfgajbkcnlkcaa.P
end Go.Proofs.Ytmfgajbkcnlkcaa.P
namespace Go.Proofs.Ytmfgajbkcnlkcaa.EV
end Go.Proofs.Ytmfgajbkcnlkcaa.EV
namespace Go.Proofs.Ytmfgajbkcnlkcaa.P
open Go.RowKit Go.Proofs.YtmfgajbkcnlkcaaW.PrintWords Go.Proofs.YtmfgajbkcnlkcaaW.PrintLast Go.Proofs.YtmfgajbkcnlkcaaW.PrintMore
attribute [local go_sem] max2_int min2_int max_two min_two max_three min_three max_four min_four   -- for this text's walks alone
set_option linter.unusedVariables false
set_option linter.unusedSimpArgs false
theorem IndexFunc_st96.calls (A0 : Option Addr) (c0 : Nat) (l0 : List (S96)) (fc : FuncId) (caps : Array Value) (p : S96 → Bool) (w : World) (hr0 : Kd.C k96 w A0 l0.length l0) (hc0 : l0.length ≤ c0) (hp : X0.FnB Try.prog fc caps w (fun x => .agg #[.int .i64 x.f0, .int .i64 x.f1, .int .i64 x.f2, .int .i64 x.f3, .int .i64 x.f4]) p) :
 Calls Try.prog 108 #[.slice A0 l0.length c0, .func (.func fc) #[] caps] w fun e w' => e = .returned (.int .i64 (X0.idx p l0)) ∧ Below w.heap.size w w' := by
 obtain ⟨fn, hf, hn, hb, hcall⟩ := hp; have HR0 := Aside0.mk hr0; have HC0 := Aside0.mk hc0; have HF := Aside0.mk hf; have HN := Aside0.mk hn; have HBo := Aside0.mk hb; have HP := Aside0.mk hcall; have HM := Aside0.mk (Kd.C_max hr0); clear hr0 hc0 hf hn hb hcall; have HB := Aside0.mk (Below.refl w.heap.size w); have hu96 := Try.underlying96; go_enter Try.func108, Try.ntmps108; go_wp2; go_loopg [8] l0.length (fun kq v8 w' => ∃ (x : Int), v8 = .int .i64 x ∧ Aside0 (0 ≤ x ∧ x ≤ l0.length ∧ kq = (l0.length - x).toNat ∧ ∀ j : Nat, j < x.toNat → p (l0.getD j z96) = false) ∧ Aside0 (Below w.heap.size w w'))
 case atStart => exact ⟨0, rfl, ⟨Int.le_refl _, by omega, by omega, fun j hj => by omega⟩, ⟨HB.1⟩⟩
 case round =>
  obtain ⟨x, rfl, HA, HB⟩ := hrel
  by_cases c2 : x < (l0.length : Int)
  ·
   have p1 : 0 ≤ x := HA.1.1; obtain ⟨ad, e, hx_0, hx_1, hx_2, hx_3, hx_4⟩ := at_T96 HR0.1 x p1 c2; cases e; have n_ := cl5_ HB.1 hx_0 hx_1 hx_2 hx_3 hx_4; clear hx_0 hx_1 hx_2 hx_3 hx_4; obtain ⟨hx_0, hx_1, hx_2, hx_3, hx_4⟩ := n_; have c2b0 : decide (x < (l0.length : Int)) = true := decide_eq_true c2; have C2 := Aside0.mk c2; replace p1 := eq_true p1; have q1 := eq_true c2; clear c2
   cases hpx : p (rd_T96 l0 x) with
   | true =>
    have HX := Aside0.mk hpx; clear hpx; go_wp2_with (first | ((with_reducible refine gate_dst (N := 16) rfl ?_); refine X0.goesV_ (some 16) rfl rfl caps HF.1 HN.1 HBo.1 #[.agg #[.int .i64 (rd_T96 l0 x).f0, .int .i64 (rd_T96 l0 x).f1, .int .i64 (rd_T96 l0 x).f2, .int .i64 (rd_T96 l0 x).f3, .int .i64 (rd_T96 l0 x).f4]] rfl rfl (by (try simp only [List.map_toArray, List.map_cons, List.map_nil]); first | done | rfl) ?_; refine (HP.1 (rd_T96 l0 x) _ HB.1).mono ?_; rintro e w6 ⟨rfl, hb6⟩; refine ⟨_, rfl, ?_⟩; rw [HX.1]; replace HB := Aside0.mk (below_step HB.1 hb6); clear hb6))
    go_ret
    exact ⟨by
     have := HA.1; have h2 := C2.1; have e1 : rd_T96 l0 x = l0.getD x.toNat z96 := rfl; have h3 := HX.1; rw [e1] at h3; rw [X0.idx_found p z96 l0 x.toNat (by omega) this.2.2.2 h3, Int.toNat_of_nonneg this.1]
     rfl, HB.1⟩
   | false =>
    have HX := Aside0.mk hpx; clear hpx; go_wp2_with (first | ((with_reducible refine gate_dst (N := 16) rfl ?_); refine X0.goesV_ (some 16) rfl rfl caps HF.1 HN.1 HBo.1 #[.agg #[.int .i64 (rd_T96 l0 x).f0, .int .i64 (rd_T96 l0 x).f1, .int .i64 (rd_T96 l0 x).f2, .int .i64 (rd_T96 l0 x).f3, .int .i64 (rd_T96 l0 x).f4]] rfl rfl (by (try simp only [List.map_toArray, List.map_cons, List.map_nil]); first | done | rfl) ?_; refine (HP.1 (rd_T96 l0 x) _ HB.1).mono ?_; rintro e w6 ⟨rfl, hb6⟩; refine ⟨_, rfl, ?_⟩; rw [HX.1]; replace HB := Aside0.mk (below_step HB.1 hb6); clear hb6))
    go_roundg (l0.length - (x + 1)).toNat
    case measure => have := HA.1; have := C2.1; omega
    case rel =>
     have h1 := HA.1; have h2 := C2.1; have h4 := HM.1; refine ⟨wrap64 (x + 1), (rs_), ⟨?_⟩, ⟨HB.1⟩⟩
     have hw : wrap64 (x + 1) = x + 1 := by unfold wrap64; omega
     rw [hw]
     refine ⟨by omega, by omega, rfl, fun j hj => ?_⟩
     by_cases hj2 : j < x.toNat
     ·
      exact h1.2.2.2 j hj2
     ·
      obtain rfl : j = x.toNat := by omega
      exact HX.1
  ·
   have c2b0 : decide (x < (l0.length : Int)) = false := decide_eq_false c2; have C2 := Aside0.mk c2; clear c2; go_wp2; go_ret
   exact ⟨by
    have := HA.1; have h2 := C2.1; rw [X0.idx_none p z96 l0 fun j hj => this.2.2.2 j (by omega)]
    rfl, HB.1⟩
theorem ContainsFunc_st96.calls (A0 : Option Addr) (c0 : Nat) (l0 : List (S96)) (fc : FuncId) (caps : Array Value) (p : S96 → Bool) (w : World) (hr0 : Kd.C k96 w A0 l0.length l0) (hc0 : l0.length ≤ c0) (hp : X0.FnB Try.prog fc caps w (fun x => .agg #[.int .i64 x.f0, .int .i64 x.f1, .int .i64 x.f2, .int .i64 x.f3, .int .i64 x.f4]) p) :
 Calls Try.prog 95 #[.slice A0 l0.length c0, .func (.func fc) #[] caps] w fun e w' => e = .returned (.bool (l0.any p)) ∧ Below w.heap.size w w' := by
 have HI := Aside0.mk (IndexFunc_st96.calls A0 c0 l0 fc caps p w hr0 hc0 hp); clear hr0 hc0 hp; go_enter Try.func95, Try.ntmps95; go_wp2_with (first | (go_at_call 108; refine HI.1.mono ?_; rintro e w6 ⟨rfl, hb6⟩; have HB := Aside0.mk hb6; clear hb6))
 go_ret
 exact ⟨by
  rw [← X0.idx_any p l0]
  rfl, HB.1⟩
theorem delf96_flat : IN.Flat k96 (fun x : S96 => ([.int .i64 x.f0, .int .i64 x.f1, .int .i64 x.f2, .int .i64 x.f3, .int .i64 x.f4] : List Value)) := ⟨fun h => k96_openM h, fun w base ok x => k96_mkM w base ok x, fun h => k96_open h⟩
theorem delf96_zero (w : World) : (zeroValue 96).run Try.prog w = .ok (.agg #[(.int .i64 0), (.int .i64 0), (.int .i64 0), (.int .i64 0), (.int .i64 0)]) w := by
 obtain ⟨i0, hi, hz⟩ := Option.map_eq_some_iff.1 info96; simp only [Prod.mk.injEq] at hz; simp [zeroValue, typeInfo, hi, hz.1]
theorem DeleteFunc_st96.some_ (g c i0 : Nat) (l0 : List (S96)) (fc : FuncId) (caps : Array Value) (p : S96 → Bool) (w : World) (hraw : DG.Raw (fun x : S96 => ([.int .i64 x.f0, .int .i64 x.f1, .int .i64 x.f2, .int .i64 x.f3, .int .i64 x.f4] : List Value)) 5 96 c g w l0) (hlc : l0.length ≤ c) (hcm : c ≤ maxLen) (hl : l0.length < 1048577)
 (hp : DG.FnG Try.prog fc caps w g (fun x : S96 => .agg #[.int .i64 x.f0, .int .i64 x.f1, .int .i64 x.f2, .int .i64 x.f3, .int .i64 x.f4]) p) (hi0 : i0 < l0.length) (hx : X0.idx p l0 = (i0 : Int)) (ht : p (l0.getD i0 z96) = true) (ha : ∀ x ∈ l0.take i0, p x = false) :
 Calls Try.prog 109 #[.slice (some ⟨g, 0, none⟩) l0.length c, .func (.func fc) #[] caps] w fun e w' => e = .returned (.slice (some ⟨g, 0, none⟩) (l0.filter fun x => !p x).length c) ∧ w.grownBy w' (some g) ∧ DG.Raw (fun x : S96 => ([.int .i64 x.f0, .int .i64 x.f1, .int .i64 x.f2, .int .i64 x.f3, .int .i64 x.f4] : List Value)) 5 96 c g w' (l0.filter fun x => !p x) := by
 have hu96 := Try.underlying96; have HI := Aside0.mk (IndexFunc_st96.calls (some ⟨g, 0, none⟩) c l0 fc caps p w (DG.Raw.reads delf96_flat rfl hraw hlc hcm) hlc hp.below); obtain ⟨fn, hf, hn, hb, hcall⟩ := hp; have HF := Aside0.mk hf; have HN := Aside0.mk hn; have HBo := Aside0.mk hb; have HP := Aside0.mk hcall; have HRW := Aside0.mk hraw; have HST := Aside0.mk (DG.KI.start (p := p) z96 hi0 ht ha); have HX := Aside0.mk hx; have hm : c ≤ 9223372036854775807 := by unfold maxLen at hcm; exact hcm
 have hne1 : ((i0 : Int) == -1) = false := beq_eq_false_iff_ne.2 (by omega)
 clear hf hn hb hcall hraw ht ha hx; go_enter Try.func109, Try.ntmps109; go_wp2_with (go_at_call 108; refine HI.1.mono ?_; rintro e w6 ⟨rfl, hb6⟩; rw [HX.1]; have HB := Aside0.mk hb6; clear hb6)
 go_loopg [5, 6] l0.length (fun kq v5 v6 wr => ∃ (i j : Nat) (xs : List (S96)), v5 = .int .i64 (i : Int) ∧ v6 = .int .i64 (j : Int) ∧ Aside0 (DG.KI p l0 xs i j ∧ l0.length - j ≤ kq) ∧ Aside0 (w.grownBy wr (some g)) ∧ Aside0 (DG.Raw (fun x : S96 => ([.int .i64 x.f0, .int .i64 x.f1, .int .i64 x.f2, .int .i64 x.f3, .int .i64 x.f4] : List Value)) 5 96 c g wr xs))
 case atStart => exact ⟨i0, i0 + 1, l0, rfl, by go_num, ⟨HST.1, by omega⟩, ⟨grown_of_below HB.1 _⟩, ⟨HRW.1.later HB.1⟩⟩
 case round =>
  obtain ⟨i, j, xs, rfl, rfl, HK, HG, HR⟩ := hrel
  by_cases hlt : j < l0.length
  ·
   have hxj := (HK.1.1).at z96 hlt; have hjx : j < xs.length := by rw [HK.1.1.len]; exact hlt
   obtain ⟨x, hx0⟩ : ∃ x, x = l0.getD j z96 := ⟨_, rfl⟩; have HX0 := Aside0.mk hx0; have hx_0 := HR.1.cell delf96_flat rfl z96 j 0 hjx (.int .i64 x.f0) (by rw [hxj, ← hx0]; rfl)
   have hx_1 := HR.1.cell delf96_flat rfl z96 j 1 hjx (.int .i64 x.f1) (by rw [hxj, ← hx0]; rfl)
   have hx_2 := HR.1.cell delf96_flat rfl z96 j 2 hjx (.int .i64 x.f2) (by rw [hxj, ← hx0]; rfl)
   have hx_3 := HR.1.cell delf96_flat rfl z96 j 3 hjx (.int .i64 x.f3) (by rw [hxj, ← hx0]; rfl)
   have hx_4 := HR.1.cell delf96_flat rfl z96 j 4 hjx (.int .i64 x.f4) (by rw [hxj, ← hx0]; rfl)
   rw [Nat.add_zero] at hx_0; have hij : i < j := HK.1.1.lt; have hjc : j < c := by omega
   clear hxj hjx hx0
   cases hpx : p x with
   | true =>
    have HPX := Aside0.mk hpx; clear hpx; go_wp2_with (first | ((with_reducible refine gate_dst (N := 28) rfl ?_); refine X0.goesV_ (some 28) rfl rfl caps HF.1 HN.1 HBo.1 #[.agg #[.int .i64 x.f0, .int .i64 x.f1, .int .i64 x.f2, .int .i64 x.f3, .int .i64 x.f4]] rfl rfl (by (try simp only [List.map_toArray, List.map_cons, List.map_nil]); first | done | rfl) ?_; refine (HP.1 x _ (DG.grown_below HG.1 (below_alloc (Below.refl _ _) _))).mono ?_; rintro e w9 ⟨rfl, hb9⟩; refine ⟨_, rfl, ?_⟩; rw [HPX.1]; have HB9 := Aside0.mk hb9; skip; clear hb9))
    go_roundg (l0.length - (j + 1))
    case measure => have := HK.1.2; omega
    case rel => exact ⟨i, j + 1, xs, rfl, by go_num, ⟨HK.1.1.skip z96 hlt (by rw [← HX0.1]; exact HPX.1), Nat.le_refl _⟩, ⟨DG.grown_below (DG.grown_below HG.1 (below_alloc (Below.refl _ _) _)) HB9.1⟩, ⟨(HR.1.later (below_alloc (Below.refl _ _) _)).later HB9.1⟩⟩
   | false =>
    have HPX := Aside0.mk hpx; clear hpx; have hix : i < xs.length := by have := HK.1.1.len; omega
    have hic : i < c := by omega
    have hiz : (i : Int) < (l0.length : Int) := by omega
    go_wp2_with (first | ((with_reducible refine gate_dst (N := 28) rfl ?_); refine X0.goesV_ (some 28) rfl rfl caps HF.1 HN.1 HBo.1 #[.agg #[.int .i64 x.f0, .int .i64 x.f1, .int .i64 x.f2, .int .i64 x.f3, .int .i64 x.f4]] rfl rfl (by (try simp only [List.map_toArray, List.map_cons, List.map_nil]); first | done | rfl) ?_; refine (HP.1 x _ (DG.grown_below HG.1 (below_alloc (Below.refl _ _) _))).mono ?_; rintro e w9 ⟨rfl, hb9⟩; refine ⟨_, rfl, ?_⟩; rw [HPX.1]; have HB9 := Aside0.mk hb9; have hy_0 := (hb9.cell (p := ⟨wr.heap.size, 0, none⟩) (by simp)).trans ((DG.cell_new wr _ _ 0).trans (rfl : _ = some (Value.int .i64 x.f0))); have hy_1 := (hb9.cell (p := ⟨wr.heap.size, 1, none⟩) (by simp)).trans ((DG.cell_new wr _ _ 1).trans (rfl : _ = some (Value.int .i64 x.f1))); have hy_2 := (hb9.cell (p := ⟨wr.heap.size, 2, none⟩) (by simp)).trans ((DG.cell_new wr _ _ 2).trans (rfl : _ = some (Value.int .i64 x.f2))); have hy_3 := (hb9.cell (p := ⟨wr.heap.size, 3, none⟩) (by simp)).trans ((DG.cell_new wr _ _ 3).trans (rfl : _ = some (Value.int .i64 x.f3))); have hy_4 := (hb9.cell (p := ⟨wr.heap.size, 4, none⟩) (by simp)).trans ((DG.cell_new wr _ _ 4).trans (rfl : _ = some (Value.int .i64 x.f4))); have RW9 := (HR.1.later (below_alloc (Below.refl _ _) (Obj.cells #[.int .i64 x.f0, .int .i64 x.f1, .int .i64 x.f2, .int .i64 x.f3, .int .i64 x.f4] 96 (0, 0)))).later hb9; have hd_0 := RW9.cell delf96_flat rfl z96 i 0 hix (.int .i64 (xs.getD i z96).f0) rfl; have hf_0 := RW9.frozen (i * 5 + 0); have hd_1 := RW9.cell delf96_flat rfl z96 i 1 hix (.int .i64 (xs.getD i z96).f1) rfl; have hf_1 := RW9.frozen (i * 5 + 1); have hd_2 := RW9.cell delf96_flat rfl z96 i 2 hix (.int .i64 (xs.getD i z96).f2) rfl; have hf_2 := RW9.frozen (i * 5 + 2); have hd_3 := RW9.cell delf96_flat rfl z96 i 3 hix (.int .i64 (xs.getD i z96).f3) rfl; have hf_3 := RW9.frozen (i * 5 + 3); have hd_4 := RW9.cell delf96_flat rfl z96 i 4 hix (.int .i64 (xs.getD i z96).f4) rfl; have hf_4 := RW9.frozen (i * 5 + 4); rw [Nat.add_zero] at hd_0 hf_0; have HW9 := Aside0.mk RW9; clear RW9; clear hb9))
    go_roundg (l0.length - (j + 1))
    case measure => have := HK.1.2; omega
    case rel =>
     have hk2 := HK.1.1.keep z96 hlt (by rw [← HX0.1]; exact HPX.1)
     rw [← HX0.1] at hk2; exact ⟨i + 1, j + 1, xs.set i x, by go_num, by go_num, ⟨hk2, Nat.le_refl _⟩, ⟨DG.grown_row (DG.grown_below (DG.grown_below HG.1 (below_alloc (Below.refl _ _) _)) HB9.1) (IN.grown_set (g := g) ([.int .i64 x.f0, .int .i64 x.f1, .int .i64 x.f2, .int .i64 x.f3, .int .i64 x.f4] : List Value) (i * 5))⟩, ⟨HW9.1.set delf96_flat rfl i x hix⟩⟩
  ·
   have hj : j = l0.length := by have := HK.1.1.le; omega
   subst hj; have hil : i < l0.length := HK.1.1.lt; have hlen := HK.1.1.len; have hic : i < c := by omega
   have hic2 : ¬ (c = i) := by omega
   have hcl := fun ty => DL.run_clear_k (P := Try.prog) wr 32 96 ty (.agg #[(.int .i64 0), (.int .i64 0), (.int .i64 0), (.int .i64 0), (.int .i64 0)]) Try.underlying32 delf96_zero 5 rfl (by intro v hv; simp [Value.cells] at hv; simp [hv, Value.oneCell']) g (i * 5) (l0.length - i) (c - i) (fun t ht => HR.1.some_ delf96_flat rfl (i * 5 + t) (by rw [hlen]; omega)) (fun t _ => HR.1.frozen _)
   clear hlen; go_wp2; go_ret; have hdone := HK.1.1.done; have hlen2 := HK.1.1.len; have hfl : (l0.filter fun x => !p x).length = i := by rw [← hdone, List.length_take]; omega
   refine ⟨by rw [hfl]; rfl, DG.grown_row HG.1 (IN.grown_set _ _), ?_⟩
   rw [← hdone]
   exact HR.1.cut delf96_flat rfl i (by omega) _ (by rw [DL.zeroCells_len, hlen2]; rfl)
theorem DeleteFunc_st96.none_ (A0 : Option Addr) (c0 : Nat) (l0 : List (S96)) (fc : FuncId) (caps : Array Value) (p : S96 → Bool) (w : World) (hr0 : Kd.C k96 w A0 l0.length l0) (hc0 : l0.length ≤ c0) (hp : X0.FnB Try.prog fc caps w (fun x => .agg #[.int .i64 x.f0, .int .i64 x.f1, .int .i64 x.f2, .int .i64 x.f3, .int .i64 x.f4]) p) (hx : X0.idx p l0 = -1) :
 Calls Try.prog 109 #[.slice A0 l0.length c0, .func (.func fc) #[] caps] w fun e w' => e = .returned (.slice A0 l0.length c0) ∧ Below w.heap.size w w' := by
 have HI := Aside0.mk (IndexFunc_st96.calls A0 c0 l0 fc caps p w hr0 hc0 hp); have HX := Aside0.mk hx; clear hr0 hc0 hp hx; go_enter Try.func109, Try.ntmps109; go_wp2_with (go_at_call 108; refine HI.1.mono ?_; rintro e w6 ⟨rfl, hb6⟩; rw [HX.1]; have HB := Aside0.mk hb6; clear hb6)
 go_ret; exact ⟨rfl, HB.1⟩
theorem DeleteFunc_st96.calls (base : Nat) (ok : Nat → Prop) (v : Value) (l0 : List (S96)) (fc : FuncId) (caps : Array Value) (p : S96 → Bool) (w : World) (ho : Kd.R k96 96 w base ok v l0) (hl : l0.length < 1048577) (hb : X0.FnB Try.prog fc caps w (fun x => .agg #[.int .i64 x.f0, .int .i64 x.f1, .int .i64 x.f2, .int .i64 x.f3, .int .i64 x.f4]) p)
 (hp : ∀ g, v.ownBlock = some g → base ≤ g → DG.FnG Try.prog fc caps w g (fun x : S96 => .agg #[.int .i64 x.f0, .int .i64 x.f1, .int .i64 x.f2, .int .i64 x.f3, .int .i64 x.f4]) p) :
 Calls Try.prog 109 #[v, .func (.func fc) #[] caps] w fun e w' => ∃ v', e = .returned v' ∧ Kd.R k96 96 w' base ok v' (l0.filter fun x => !p x) ∧ w.grownBy w' v.ownBlock := by
 rcases DG.idx_cases p z96 l0 with ⟨hx, ha⟩ | ⟨i0, hi0, hx, ht, ha⟩
 ·
  obtain ⟨A0, c0, e0⟩ := Kd.R_slice ho; subst e0; have hr := Kd.R_reads' ho; refine (DeleteFunc_st96.none_ A0 c0 l0 fc caps p w hr.2.2 hr.2.1 hb hx).mono ?_
  rintro e w' ⟨rfl, hb'⟩; rw [DG.filter_all p l0 ha]
  exact ⟨_, rfl, Kd.R_below ho hb', grown_of_below hb' _⟩
 ·
  obtain ⟨hv, hv2⟩ | ⟨g, c, rfl⟩ := IN.R_cases ho
  ·
   subst hv2; exact absurd hi0 (Nat.not_lt_zero _)
  obtain ⟨n1, n2, n3, n4, n5, _⟩ := IN.R_raw delf96_flat ho; have hraw := DG.Raw.of_R delf96_flat ho; have hFG := hp g (by simp [Value.ownBlock]) n4
  refine (DeleteFunc_st96.some_ g c i0 l0 fc caps p w hraw n2 n3 hl hFG hi0 hx ht ha).mono ?_
  rintro e w' ⟨rfl, hg, hr⟩; have hfl : (l0.filter fun x => !p x).length ≤ c := Nat.le_trans (List.length_filter_le _ _) n2; exact ⟨_, rfl, hr.to_R delf96_flat rfl n4 n5 hfl n3, by simpa [Value.ownBlock] using hg⟩
def impl_lotsOf.f (l0 : List (S96)) (a1 a2 : Int) : Option (List (S96)) := if l0.length < 1048577 then some (l0.filter fun x => decide (x.f0 = a1 ∧ x.f1 = a2)) else none
theorem impl_lotsOf.is_ (x : S96) (a1 a2 : Int) : impl_isLot.f x.f0 x.f1 x.f2 x.f3 x.f4 a1 a2 = some (decide (x.f0 = a1 ∧ x.f1 = a2)) := by
 unfold impl_isLot.f
 by_cases h1 : x.f0 = a1 <;> by_cases h2 : x.f1 = a2 <;> simp [h1, h2]
theorem impl_lotsOf.clo (B1 B2 : Nat) (a1 a2 : Int) (x : S96) (W : World) (h1 : W.cell? ⟨B1, 0, none⟩ = some (.int .i64 a1)) (h2 : W.cell? ⟨B2, 0, none⟩ = some (.int .i64 a2)) :
 Calls Try.prog 111 #[.agg #[.int .i64 x.f0, .int .i64 x.f1, .int .i64 x.f2, .int .i64 x.f3, .int .i64 x.f4], .pointer (some ⟨B1, 0, none⟩), .pointer (some ⟨B2, 0, none⟩)] W fun e W' => e = .returned (.bool (!decide (x.f0 = a1 ∧ x.f1 = a2))) ∧ Below W.heap.size W W' := by
 have HB := Aside0.mk (Below.refl W.heap.size W); have HI := Aside0.mk (impl_lotsOf.is_ x a1 a2); obtain ⟨q, hq⟩ : ∃ q, decide (x.f0 = a1 ∧ x.f1 = a2) = q := ⟨_, rfl⟩; rw [hq] at HI ⊢
 clear hq; have HQ := Aside0.mk (show ∀ W2, Below W.heap.size W W2 → Calls Try.prog 112 #[.agg #[.int .i64 x.f0, .int .i64 x.f1, .int .i64 x.f2, .int .i64 x.f3, .int .i64 x.f4], .int .i64 a1, .int .i64 a2] W2 fun e W' => e = .returned (.bool q) ∧ Below W2.heap.size W2 W' from fun W2 _ => impl_isLot.calls _ _ _ _ _ _ _ q W2 HI.1); have g1 := Lib.cell?_alloc_some (.cells #[.int .i64 x.f0, .int .i64 x.f1, .int .i64 x.f2, .int .i64 x.f3, .int .i64 x.f4] 96 (0, 0)) h1; have g2 := Lib.cell?_alloc_some (.cells #[.int .i64 x.f0, .int .i64 x.f1, .int .i64 x.f2, .int .i64 x.f3, .int .i64 x.f4] 96 (0, 0)) h2; clear h1 h2; go_enter Try.func111, Try.ntmps111; go_wp2_with (go_at_call 112; refine (HQ.1 _ (below_alloc HB.1 _)).mono ?_; rintro e w6 ⟨rfl, hb6⟩; have HB6 := Aside0.mk hb6; clear hb6)
 all_goals
  go_ret; exact ⟨rs_, below_step (below_alloc HB.1 _) HB6.1⟩
theorem impl_lotsOf.up (w : World) (o1 o2 : Obj) : w.heap.size ≤ ((w.alloc o1).alloc o2).heap.size := by simp; omega
theorem impl_lotsOf.lt1 {w : World} {o1 o2 : Obj} {g : Nat} (h : ((w.alloc o1).alloc o2).heap.size ≤ g) : w.heap.size < g := by simp at h; omega
theorem impl_lotsOf.lt2 {w : World} {o1 o2 : Obj} {g : Nat} (h : ((w.alloc o1).alloc o2).heap.size ≤ g) : w.heap.size + 1 < g := by simp at h; omega
theorem impl_lotsOf.c1 {w w5 : World} {u1 : Value} {t : Nat} {o2 : Obj} (hb : Below ((w.alloc (.cells #[u1] t (0, 0))).alloc o2).heap.size ((w.alloc (.cells #[u1] t (0, 0))).alloc o2) w5) : w5.cell? ⟨w.heap.size, 0, none⟩ = some u1 :=
 (hb.cell (by simp; omega)).trans (Lib.cell?_alloc_some o2 (DG.cell_new w #[u1] t 0))
theorem impl_lotsOf.c2 {w w5 : World} {o1 : Obj} {u2 : Value} {t : Nat} (hb : Below ((w.alloc o1).alloc (.cells #[u2] t (0, 0))).heap.size ((w.alloc o1).alloc (.cells #[u2] t (0, 0))) w5) : w5.cell? ⟨w.heap.size + 1, 0, none⟩ = some u2 := by
 have e : (w.alloc o1).heap.size = w.heap.size + 1 := by simp
 have h := DG.cell_new (w.alloc o1) #[u2] t 0; rw [e] at h; exact (hb.cell (by simp)).trans h
theorem impl_lotsOf.own {w : World} {base : Nat} {ok : Nat → Prop} {v : Value} {xs : List (S96)} (h : Kd.R k96 96 w base ok v xs) (k : Nat) (hk : v.ownBlock = some k) : base ≤ k := by
 obtain ⟨hv, _⟩ | ⟨g, c, rfl⟩ := IN.R_cases h
 ·
  subst hv; simp [Value.ownBlock] at hk
 ·
  obtain ⟨_, _, _, n4, _, _⟩ := IN.R_raw delf96_flat h; simp [Value.ownBlock] at hk
  omega
theorem impl_lotsOf.predB {B1 B2 : Nat} {a1 a2 : Int} {w : World} (c1 : w.cell? ⟨B1, 0, none⟩ = some (.int .i64 a1)) (c2 : w.cell? ⟨B2, 0, none⟩ = some (.int .i64 a2)) :
 X0.FnB Try.prog 111 #[.pointer (some ⟨B1, 0, none⟩), .pointer (some ⟨B2, 0, none⟩)] w (fun x : S96 => .agg #[.int .i64 x.f0, .int .i64 x.f1, .int .i64 x.f2, .int .i64 x.f3, .int .i64 x.f4]) (fun x => !decide (x.f0 = a1 ∧ x.f1 = a2)) :=
 ⟨_, Try.func111, by kernel_rfl, rfl, fun x W hW => impl_lotsOf.clo B1 B2 a1 a2 x W ((hW.cell (World.block_lt_of_cell? w _ c1)).trans c1) ((hW.cell (World.block_lt_of_cell? w _ c2)).trans c2)⟩
theorem impl_lotsOf.predG {B1 B2 g : Nat} {a1 a2 : Int} {w : World} (c1 : w.cell? ⟨B1, 0, none⟩ = some (.int .i64 a1)) (c2 : w.cell? ⟨B2, 0, none⟩ = some (.int .i64 a2)) (n1 : B1 < g) (n2 : B2 < g) :
 DG.FnG Try.prog 111 #[.pointer (some ⟨B1, 0, none⟩), .pointer (some ⟨B2, 0, none⟩)] w g (fun x : S96 => .agg #[.int .i64 x.f0, .int .i64 x.f1, .int .i64 x.f2, .int .i64 x.f3, .int .i64 x.f4]) (fun x => !decide (x.f0 = a1 ∧ x.f1 = a2)) :=
 ⟨_, Try.func111, by kernel_rfl, rfl, fun x W hW => impl_lotsOf.clo B1 B2 a1 a2 x W (hW.cell c1 (by simp; omega)) (hW.cell c2 (by simp; omega))⟩
theorem impl_lotsOf.calls (A0 : Option Addr) (c0 : Nat) (l0 : List (S96)) (a1 a2 : Int) (r : List (S96)) (w : World) (hr0 : Kd.C k96 w A0 l0.length l0) (hc0 : l0.length ≤ c0) (h : impl_lotsOf.f l0 a1 a2 = some r) :
 Calls Try.prog 98 #[.slice A0 l0.length c0, .int .i64 a1, .int .i64 a2] w fun e w' => ∃ v0_ : Value, e = .returned (v0_) ∧ Kd.R k96 96 w' w.heap.size (fun _ => True) v0_ r ∧ Below w.heap.size w w' := by
 unfold impl_lotsOf.f at h
 by_cases hl : l0.length < 1048577
 ·
  rw [if_pos hl] at h; obtain rfl := Option.some.inj h; clear h
  have hcl : impl_Lot.f l0 = some l0 := by
   unfold impl_Lot.f
   rw [Option.bind_some, List.length_nil, if_pos (by omega), List.nil_append]
  have HC := Aside0.mk hcl; have HR0 := Aside0.mk hr0; have HC0 := Aside0.mk hc0; have HB := Aside0.mk (Below.refl w.heap.size w); have HL := Aside0.mk hl; clear hr0 hc0 hcl hl; go_enter Try.func98, Try.ntmps98; go_wp2_with (first | (go_at_call 110; refine (impl_Lot.calls A0 c0 l0 l0 _ (Kd.C_alloc (Kd.C_alloc HR0.1 _) _) HC0.1 HC.1).mono ?_; rintro e w5 ⟨v, rfl, ho, hb⟩; have HO := Aside0.mk ho; have HB5 := Aside0.mk hb; clear ho hb) | (go_at_call 109; refine (DeleteFunc_st96.calls _ _ v l0 111 #[.pointer (some ⟨w.heap.size, 0, none⟩), .pointer (some ⟨w.heap.size + 1, 0, none⟩)] (fun x => !decide (x.f0 = a1 ∧ x.f1 = a2)) _ HO.1 HL.1 (impl_lotsOf.predB (impl_lotsOf.c1 HB5.1) (impl_lotsOf.c2 HB5.1)) (fun g _ hg => impl_lotsOf.predG (impl_lotsOf.c1 HB5.1) (impl_lotsOf.c2 HB5.1) (impl_lotsOf.lt1 hg) (impl_lotsOf.lt2 hg))).mono ?_; rintro e w6 ⟨v6, rfl, ho, hg⟩; have HO6 := Aside0.mk ho; have HG6 := Aside0.mk hg; clear ho hg))
  go_ret; have hsz := impl_lotsOf.up w (.cells #[.int .i64 a1] 3 (0, 0)) (.cells #[.int .i64 a2] 3 (0, 0)); refine ⟨v6, rs_, ?_, ?_⟩
  ·
   have hR := Kd.R_lower HO6.1 hsz; have e : (l0.filter fun x => !(!decide (x.f0 = a1 ∧ x.f1 = a2))) = l0.filter fun x => decide (x.f0 = a1 ∧ x.f1 = a2) := by simp only [Bool.not_not]
   rw [e] at hR; exact hR
  ·
   have hb5 := below_step (below_alloc (below_alloc (Below.refl _ _) _) _) HB5.1; exact hb5.grown HG6.1 (below_size hb5) (fun k hk => Nat.le_trans hsz (impl_lotsOf.own HO.1 k hk))
 ·
  rw [if_neg hl] at h; cases h
def impl_LotsOk.form (x : S96) : Bool := decide ((1 ≤ x.f0 ∧ x.f0 ≤ 1000) ∧ (1 ≤ x.f1 ∧ x.f1 ≤ 1000) ∧ (1 ≤ x.f2 ∧ x.f2 ≤ 1000000000) ∧ (1 ≤ x.f3 ∧ x.f3 ≤ 1000000000000000) ∧ 0 ≤ x.f4 ∧ x.f4 ≤ 1000000000000000)
def impl_LotsOk.cmp (a b : S96) : Int := if a.f0 < b.f0 then -1 else if b.f0 < a.f0 then 1 else if a.f1 < b.f1 then -1 else if b.f1 < a.f1 then 1 else if a.f2 < b.f2 then -1 else if b.f2 < a.f2 then 1 else 0
def impl_LotsOk.chk (l : List (S96)) : Nat → Nat → Bool
 | 0, _ => true
 | n + 1, i => if impl_LotsOk.form (l.getD i z96) = true ∧ ¬(0 < i ∧ 0 ≤ impl_LotsOk.cmp (l.getD (i - 1) z96) (l.getD i z96)) then impl_LotsOk.chk l n (i + 1) else false
def impl_LotsOk.sum3 (l : List (S96)) (q : Int) : Int := l.foldl (fun q x => wrap64 (q + x.f3)) q
def impl_LotsOk.sum4 (l : List (S96)) (q : Int) : Int := l.foldl (fun q x => wrap64 (q + x.f4)) q
def impl_LotsOk.amt (a : Int) : Bool := decide (-1000000000000000 ≤ a ∧ a ≤ 1000000000000000)
def impl_LotsOk.of (l : List (S96)) (a b : Int) : List (S96) := l.filter fun x => decide (x.f0 = a ∧ x.f1 = b)
def impl_LotsOk.over (l : List (S96)) (x : S96) : Bool := if impl_LotsOk.amt (impl_LotsOk.sum3 (impl_LotsOk.of l x.f0 x.f1) 0) = true then !impl_LotsOk.amt (impl_LotsOk.sum4 (impl_LotsOk.of l x.f0 x.f1) 0) else true
def impl_LotsOk.ok (l : List (S96)) : Bool := if impl_LotsOk.chk l l.length 0 = true then (if (l.length : Int) > 120 then false else !(l.any (impl_LotsOk.over l))) else false
def impl_LotsOk.f (l0 : List (S96)) : Option Bool := if l0.length < 1048577 then some (impl_LotsOk.ok l0) else none
theorem impl_LotsOk.in_ (a lo hi : Int) : impl_in.f a lo hi = some (decide (lo ≤ a ∧ a ≤ hi)) := by
 unfold impl_in.f
 by_cases h : a ≥ lo
 ·
  rw [if_pos h]
  congr 1
  rw [Bool.eq_iff_iff, decide_eq_true_iff, decide_eq_true_iff]
  omega
 ·
  rw [if_neg h]
  congr 1
  symm
  rw [decide_eq_false_iff_not]
  omega
theorem impl_LotsOk.amt_ (a : Int) : impl_AmountOk.f a = some (impl_LotsOk.amt a) := by
 unfold impl_AmountOk.f impl_LotsOk.amt
 rw [impl_LotsOk.in_]
 rfl
theorem impl_LotsOk.no_ (a : Int) : impl_isNo.f a = some (decide (1 ≤ a ∧ a ≤ 1000)) := by
 unfold impl_isNo.f
 rw [impl_LotsOk.in_]
 rfl
theorem impl_LotsOk.form_ (x : S96) : impl_lotForm.f x.f0 x.f1 x.f2 x.f3 x.f4 = some (impl_LotsOk.form x) := by
 unfold impl_lotForm.f impl_LotsOk.form
 simp only [impl_LotsOk.in_, impl_LotsOk.no_, Option.bind_some]
 by_cases h0 : 1 ≤ x.f0 ∧ x.f0 ≤ 1000
 ·
  by_cases h1 : 1 ≤ x.f1 ∧ x.f1 ≤ 1000
  ·
   by_cases h2 : 1 ≤ x.f2 ∧ x.f2 ≤ 1000000000
   ·
    by_cases h3 : 1 ≤ x.f3 ∧ x.f3 ≤ 1000000000000000 <;> simp [h0, h1, h2, h3]
   ·
    simp [h0, h1, h2]
  ·
   simp [h0, h1]
 ·
  simp [h0]
theorem impl_LotsOk.cmp_ (a b : S96) : impl_lotBefore.f 1 a.f0 a.f1 a.f2 a.f3 a.f4 b.f0 b.f1 b.f2 b.f3 b.f4 = some (impl_LotsOk.cmp a b) := by
 unfold impl_lotBefore.f impl_byBoth.f impl_LotsOk.cmp
 simp only [impl_byBoth.j0]
 by_cases h0 : a.f0 < b.f0
 ·
  simp [h0]
 ·
  by_cases h1 : a.f0 = b.f0
  ·
   have n1 : ¬b.f0 < a.f0 := by omega
   by_cases h2 : a.f1 < b.f1
   ·
    simp [h1, h2]
   ·
    by_cases h3 : a.f1 = b.f1
    ·
     by_cases h4 : a.f2 < b.f2
     ·
      simp [h1, h3, h4]
     ·
      by_cases h5 : b.f2 < a.f2 <;> simp [h1, h3, h4, h5]
    ·
     have n3 : b.f1 < a.f1 := by omega
     simp [h1, h2, h3, n3]
  ·
   have n1 : b.f0 < a.f0 := by omega
   simp [h0, h1, n1]
theorem impl_LotsOk.sum_go (l : List (S96)) (hl : l.length < 1048577) : ∀ (n i : Nat) (q c : Int), l.length - i = n → i ≤ l.length → impl_sumLots.l0 (n + 1) q c l (l.length : Int) (i : Int) = some (impl_LotsOk.sum3 (l.drop i) q, impl_LotsOk.sum4 (l.drop i) c)
 | 0, i, q, c, hn, hi => by
  have e : i = l.length := by omega
  subst e; rw [impl_sumLots.l0, if_neg (by omega), List.drop_length]
  rfl
 | n + 1, i, q, c, hn, hi => by
  have h1 : i < l.length := by omega
  rw [impl_sumLots.l0, if_pos (by omega), if_pos (by omega), if_pos (by omega)]
  have hw : wrap64 ((i : Int) + 1) = ((i + 1 : Nat) : Int) := by
   unfold wrap64
   omega
  rw [hw, impl_LotsOk.sum_go l hl n (i + 1) _ _ (by omega) (by omega), List.drop_eq_getElem_cons h1]
  have e : rd_T96 l (i : Int) = l[i] := by
   unfold rd_T96
   rw [Int.toNat_natCast, List.getD_eq_getElem?_getD, List.getElem?_eq_getElem h1]
   rfl
  rw [e]
  rfl
theorem impl_LotsOk.sum_ (l : List (S96)) (hl : l.length < 1048577) : impl_sumLots.f (l.length + 1) l = some (impl_LotsOk.sum3 l 0, impl_LotsOk.sum4 l 0) := impl_LotsOk.sum_go l hl l.length 0 0 0 (by omega) (by omega)
theorem impl_LotsOk.clo (B : Nat) (A0 : Option Addr) (c0 : Nat) (l0 : List (S96)) (x : S96) (W : World) (h1 : W.cell? ⟨B, 0, none⟩ = some (.slice A0 l0.length c0)) (hC : Kd.C k96 W A0 l0.length l0) (hc0 : l0.length ≤ c0) (hl : l0.length < 1048577) :
 Calls Try.prog 96 #[.agg #[.int .i64 x.f0, .int .i64 x.f1, .int .i64 x.f2, .int .i64 x.f3, .int .i64 x.f4], .pointer (some ⟨B, 0, none⟩)] W fun e W' => e = .returned (.bool (impl_LotsOk.over l0 x)) ∧ Below W.heap.size W W' := by
 have HB := Aside0.mk (Below.refl W.heap.size W); have HC := Aside0.mk hC; have HC0 := Aside0.mk hc0
 have HF : Aside0 (impl_lotsOf.f l0 x.f0 x.f1 = some (impl_LotsOk.of l0 x.f0 x.f1)) := ⟨by
  unfold impl_lotsOf.f
  rw [if_pos hl]
  rfl⟩
 have HL : Aside0 ((impl_LotsOk.of l0 x.f0 x.f1).length < 1048577) := ⟨Nat.lt_of_le_of_lt (List.length_filter_le _ _) hl⟩; have HO : Aside0 (impl_LotsOk.over l0 x = if impl_LotsOk.amt (impl_LotsOk.sum3 (impl_LotsOk.of l0 x.f0 x.f1) 0) = true then !impl_LotsOk.amt (impl_LotsOk.sum4 (impl_LotsOk.of l0 x.f0 x.f1) 0) else true) := ⟨rfl⟩; generalize impl_LotsOk.over l0 x = ov at HO ⊢
 generalize impl_LotsOk.of l0 x.f0 x.f1 = part at HF HL HO
 have HS := Aside0.mk (impl_LotsOk.sum_ part HL.1); generalize impl_LotsOk.sum3 part 0 = q at HS HO
 generalize impl_LotsOk.sum4 part 0 = c at HS HO
 have HQ := Aside0.mk (impl_LotsOk.amt_ q); have HD := Aside0.mk (impl_LotsOk.amt_ c); generalize impl_LotsOk.amt q = bq at HQ HO
 generalize impl_LotsOk.amt c = bc at HD HO
 have g1 := Lib.cell?_alloc_some (.cells #[.int .i64 x.f0, .int .i64 x.f1, .int .i64 x.f2, .int .i64 x.f3, .int .i64 x.f4] 96 (0, 0)) h1; clear h1 hC hc0 hl
 cases bq with
 | true =>
  obtain rfl : ov = !bc := HO.1; clear HO; go_enter Try.func96, Try.ntmps96; go_wp2_with (first | (go_at_call 98; refine (impl_lotsOf.calls A0 c0 l0 x.f0 x.f1 part _ (Kd.C_alloc HC.1 _) HC0.1 HF.1).mono ?_; rintro e w5 ⟨v, rfl, ho, hb⟩; obtain ⟨A1, c1, rfl, hc1, hr1⟩ := Kd.R_reads ho; replace HB := Aside0.mk (below_step (below_alloc HB.1 _) hb); have HR1 := Aside0.mk hr1; have HC1 := Aside0.mk hc1; clear ho hb hr1 hc1) | (go_at_call 97; refine (impl_sumLots.calls (part.length + 1) A1 c1 part q c _ HR1.1 HC1.1 HS.1).mono ?_; rintro e w6 ⟨rfl, hb⟩; replace HB := Aside0.mk (below_step HB.1 hb); clear hb) | (go_at_call_of 91 (Value.int .i64 q); refine (impl_AmountOk.calls q _ _ HQ.1).mono ?_; rintro e w7 ⟨rfl, ⟨nd, rfl⟩⟩) | (go_at_call_of 91 (Value.int .i64 c); refine (impl_AmountOk.calls c _ _ HD.1).mono ?_; rintro e w8 ⟨rfl, ⟨nd, rfl⟩⟩))
  go_ret; exact ⟨rs_, bb_⟩
 | false =>
  obtain rfl : ov = true := HO.1; clear HO; go_enter Try.func96, Try.ntmps96; go_wp2_with (first | (go_at_call 98; refine (impl_lotsOf.calls A0 c0 l0 x.f0 x.f1 part _ (Kd.C_alloc HC.1 _) HC0.1 HF.1).mono ?_; rintro e w5 ⟨v, rfl, ho, hb⟩; obtain ⟨A1, c1, rfl, hc1, hr1⟩ := Kd.R_reads ho; replace HB := Aside0.mk (below_step (below_alloc HB.1 _) hb); have HR1 := Aside0.mk hr1; have HC1 := Aside0.mk hc1; clear ho hb hr1 hc1) | (go_at_call 97; refine (impl_sumLots.calls (part.length + 1) A1 c1 part q c _ HR1.1 HC1.1 HS.1).mono ?_; rintro e w6 ⟨rfl, hb⟩; replace HB := Aside0.mk (below_step HB.1 hb); clear hb) | (go_at_call 91; refine (impl_AmountOk.calls q _ _ HQ.1).mono ?_; rintro e w7 ⟨rfl, ⟨nd, rfl⟩⟩))
  go_ret; exact ⟨rs_, bb_⟩
theorem impl_LotsOk.pred {B : Nat} {A0 : Option Addr} {c0 : Nat} {l0 : List (S96)} {w : World} (h1 : w.cell? ⟨B, 0, none⟩ = some (.slice A0 l0.length c0)) (hC : Kd.C k96 w A0 l0.length l0) (hc0 : l0.length ≤ c0) (hl : l0.length < 1048577) :
 X0.FnB Try.prog 96 #[.pointer (some ⟨B, 0, none⟩)] w (fun x : S96 => .agg #[.int .i64 x.f0, .int .i64 x.f1, .int .i64 x.f2, .int .i64 x.f3, .int .i64 x.f4]) (impl_LotsOk.over l0) :=
 ⟨_, Try.func96, by kernel_rfl, rfl, fun x W hW => impl_LotsOk.clo B A0 c0 l0 x W ((hW.cell (World.block_lt_of_cell? w _ h1)).trans h1) (Kd.C_below hC hW) hc0 hl⟩
def impl_LotsOk.T4 : Bool × List (List Nat × List Nat) := (true, [([], []), ([0], [0]), ([1], [1]), ([2, 1], [2]), ([3], [3]), ([4, 3], [3, 4]), ([5, 3, 3], [3, 5]), ([6], [6]), ([6], [6]), ([8, 6], [6, 8]), ([7, 9, 6], [6, 7, 9]), ([10, 6], [6, 10]), ([6], [6]), ([11, 12, 6, 6], [6, 11, 12]), ([13, 6], [6, 13]), ([6, 14, 3], [3, 6, 14]), ([3, 15], [3, 15])])
def impl_LotsOk.B4 : List Nat := [0, 1, 3, 7, 15, 31, 63, 127, 127, 383, 1023, 2047, 127, 8191, 16383, 32767, 65535]
theorem impl_LotsOk.tab4 : rtab .any (opsOf Try.f69 4) = impl_LotsOk.T4 := by kernel_rfl
theorem impl_LotsOk.bits4 : waitsOk impl_LotsOk.T4.2 impl_LotsOk.B4 = true := by kernel_rfl
theorem impl_LotsOk.step_ (l : List (S96)) (n : Nat) (x : Int) (h0 : 0 ≤ x) : impl_LotsOk.chk l (n + 1) x.toNat = if impl_LotsOk.form (rd_T96 l x) = true then (if x > 0 then (if 0 ≤ impl_LotsOk.cmp (rd_T96 l (x - 1)) (rd_T96 l x) then false else impl_LotsOk.chk l n (x + 1).toNat) else impl_LotsOk.chk l n (x + 1).toNat) else false := by
 have e1 : (x + 1).toNat = x.toNat + 1 := by omega
 have e2 : (x - 1).toNat = x.toNat - 1 := by omega
 have e3 : x > 0 ↔ 0 < x.toNat := by omega
 unfold rd_T96
 rw [impl_LotsOk.chk, e1, e2]
 generalize impl_LotsOk.form (l.getD x.toNat z96) = b
 generalize impl_LotsOk.cmp (l.getD (x.toNat - 1) z96) (l.getD x.toNat z96) = c
 cases b
 ·
  simp
 ·
  by_cases h1 : 0 < x.toNat
  ·
   have h2 : 0 < x := e3.2 h1
   by_cases h3 : 0 ≤ c
   ·
    simp [h1, h2, h3]
   ·
    simp [h1, h2, h3]
  ·
   have h2 : ¬0 < x := fun h => h1 (e3.1 h); simp [h1, h2]
set_option maxHeartbeats 16000000 in
theorem impl_LotsOk.calls (A0 : Option Addr) (c0 : Nat) (l0 : List (S96)) (r : Bool) (w : World) (hr0 : Kd.C k96 w A0 l0.length l0) (hc0 : l0.length ≤ c0) (h : impl_LotsOk.f l0 = some r) :
 Calls Try.prog 69 #[.slice A0 l0.length c0] w fun e w' => e = .returned (.bool r) ∧ Below w.heap.size w w' := by
 have hu96 := Try.underlying96; unfold impl_LotsOk.f at h
 by_cases hl : l0.length < 1048577
 ·
  rw [if_pos hl] at h; obtain rfl := Option.some.inj h; clear h; have HL := Aside0.mk hl; have HC0 := Aside0.mk hc0; have HQ : Aside0 (impl_LotsOk.ok l0 = if impl_LotsOk.chk l0 l0.length 0 = true then (if (l0.length : Int) > 120 then false else !(l0.any (impl_LotsOk.over l0))) else false) := ⟨rfl⟩; generalize impl_LotsOk.ok l0 = r at HQ ⊢
  generalize hq0 : impl_LotsOk.chk l0 l0.length 0 = q0 at HQ
  have HK := Aside0.mk hq0; clear hq0; have HW := Aside0.mk (below_alloc (Below.refl w.heap.size w) (.cells #[.slice A0 l0.length c0] 32 (0, 0))); have HX : Aside0 ((w.alloc (.cells #[.slice A0 l0.length c0] 32 (0, 0))).cell? ⟨w.heap.size, 0, none⟩ = some (.slice A0 l0.length c0)) := ⟨DG.cell_new w #[.slice A0 l0.length c0] 32 0⟩; have HR1 := Aside0.mk (Kd.C_alloc hr0 (.cells #[.slice A0 l0.length c0] 32 (0, 0))); clear hr0 hc0 hl; go_enter Try.func69, Try.ntmps69; go_wp2; generalize w.alloc (.cells #[.slice A0 l0.length c0] 32 (0, 0)) = w1 at HW HX HR1 ⊢
  have HB := Aside0.mk (Below.refl w1.heap.size w1); go_loopg [7] l0.length (fun kq v7 w' => ∃ (x : Int), v7 = .int .i64 x ∧ Aside0 (0 ≤ x ∧ x ≤ l0.length ∧ kq = (l0.length - x).toNat ∧ impl_LotsOk.chk l0 (l0.length - x).toNat x.toNat = q0) ∧ Aside0 (Below w1.heap.size w1 w'))
  case atStart => exact ⟨0, rfl, ⟨Int.le_refl _, by omega, by omega, by rw [Int.sub_zero, Int.toNat_natCast]; exact HK.1⟩, ⟨HB.1⟩⟩
  case round =>
   clear HB; obtain ⟨x, rfl, HA, HB⟩ := hrel
   by_cases c3 : x < (l0.length : Int)
   ·
    have c3b0 : decide (x < (l0.length : Int)) = true := decide_eq_true c3; have p1 : 0 ≤ x := HA.1.1
    have HKx : Aside0 (impl_LotsOk.chk l0 ((l0.length - (x + 1)).toNat + 1) x.toNat = q0) := ⟨by
     have h1 := HA.1.2.2.2; have e1 : (l0.length - x).toNat = (l0.length - (x + 1)).toNat + 1 := by omega
     rw [e1] at h1; exact h1⟩
    have C3 := Aside0.mk c3; obtain ⟨ad, e, hx_0, hx_1, hx_2, hx_3, hx_4⟩ := at_T96 HR1.1 x p1 c3; cases e; replace hx_0 := (HB.1.cell (World.block_lt_of_cell? w1 _ hx_0)).trans hx_0; replace hx_1 := (HB.1.cell (World.block_lt_of_cell? w1 _ hx_1)).trans hx_1; replace hx_2 := (HB.1.cell (World.block_lt_of_cell? w1 _ hx_2)).trans hx_2; replace hx_3 := (HB.1.cell (World.block_lt_of_cell? w1 _ hx_3)).trans hx_3; replace hx_4 := (HB.1.cell (World.block_lt_of_cell? w1 _ hx_4)).trans hx_4; replace p1 := eq_true p1; have q1 := eq_true c3; clear c3; go_upto_region 4 with (first | ((with_reducible refine gate_dst (N := 4) rfl ?_); refine be_ 4 (cs := #[.int .i64 0, .int .i64 0, .int .i64 0, .int .i64 0, .int .i64 0]) (t := 96) ?_; intro gb hg w6 hbox hb; have n_ := as3_ (below_step (bb_) hb) (hbox) ((by rw [hg]; exact (below_size (bb_)) : w1.heap.size ≤ gb)); clear HB; obtain ⟨HB, BK, GE⟩ := n_; clear hb hbox hg; obtain ⟨_, _, _, _, _, _, _, _, _, _⟩ := ce5_ BK.1))
    (try simp only [Act.put, List.setIfInBounds_toArray, List.set_cons_zero, List.set_cons_succ])
    have n0_ : Aside0 ((((((w6.setCell ⟨gb, 0, none⟩ (.int .i64 (rd_T96 l0 x).f0)).setCell ⟨gb, 1, none⟩ (.int .i64 (rd_T96 l0 x).f1)).setCell ⟨gb, 2, none⟩ (.int .i64 (rd_T96 l0 x).f2)).setCell ⟨gb, 3, none⟩ (.int .i64 (rd_T96 l0 x).f3)).setCell ⟨gb, 4, none⟩ (.int .i64 (rd_T96 l0 x).f4)).heap[gb]? = some (.cells #[.int .i64 (rd_T96 l0 x).f0, .int .i64 (rd_T96 l0 x).f1, .int .i64 (rd_T96 l0 x).f2, .int .i64 (rd_T96 l0 x).f3, .int .i64 (rd_T96 l0 x).f4] 96 (0, 0))) := ⟨by refine pc_ (blk_put (cs := #[.int .i64 (rd_T96 l0 x).f0, .int .i64 (rd_T96 l0 x).f1, .int .i64 (rd_T96 l0 x).f2, .int .i64 (rd_T96 l0 x).f3, .int .i64 0]) ?_ 4 _ rfl); refine pc_ (blk_put (cs := #[.int .i64 (rd_T96 l0 x).f0, .int .i64 (rd_T96 l0 x).f1, .int .i64 (rd_T96 l0 x).f2, .int .i64 0, .int .i64 0]) ?_ 3 _ rfl); refine pc_ (blk_put (cs := #[.int .i64 (rd_T96 l0 x).f0, .int .i64 (rd_T96 l0 x).f1, .int .i64 0, .int .i64 0, .int .i64 0]) ?_ 2 _ rfl); refine pc_ (blk_put (cs := #[.int .i64 (rd_T96 l0 x).f0, .int .i64 0, .int .i64 0, .int .i64 0, .int .i64 0]) ?_ 1 _ rfl); refine pc_ (blk_put (cs := #[.int .i64 0, .int .i64 0, .int .i64 0, .int .i64 0, .int .i64 0]) ?_ 0 _ rfl); exact pb_ BK.1⟩
    have n1_ : Aside0 (Below w1.heap.size w1 (((((w6.setCell ⟨gb, 0, none⟩ (.int .i64 (rd_T96 l0 x).f0)).setCell ⟨gb, 1, none⟩ (.int .i64 (rd_T96 l0 x).f1)).setCell ⟨gb, 2, none⟩ (.int .i64 (rd_T96 l0 x).f2)).setCell ⟨gb, 3, none⟩ (.int .i64 (rd_T96 l0 x).f3)).setCell ⟨gb, 4, none⟩ (.int .i64 (rd_T96 l0 x).f4))) := ⟨bg_ GE.1⟩; (try clear BK); (try clear HB); generalize (((((w6.setCell ⟨gb, 0, none⟩ (.int .i64 (rd_T96 l0 x).f0)).setCell ⟨gb, 1, none⟩ (.int .i64 (rd_T96 l0 x).f1)).setCell ⟨gb, 2, none⟩ (.int .i64 (rd_T96 l0 x).f2)).setCell ⟨gb, 3, none⟩ (.int .i64 (rd_T96 l0 x).f3)).setCell ⟨gb, 4, none⟩ (.int .i64 (rd_T96 l0 x).f4)) = w15 at n0_ n1_ ⊢
    have BK := n0_; have HB := n1_; clear n0_ n1_; have n_ := as2_ (blk_drew BK.1) (below_drew1 HB.1); clear BK HB; obtain ⟨BK, HB⟩ := n_; have HFm := Aside0.mk (impl_LotsOk.form_ (rd_T96 l0 x)); have HSt := Aside0.mk (impl_LotsOk.step_ l0 (l0.length - (x + 1)).toNat x HA.1.1)
    cases hfm : impl_LotsOk.form (rd_T96 l0 x) with
    | false =>
     have hq : q0 = false := by
      have h1 := HKx.1; have h2 := HSt.1; rw [h1, hfm] at h2; simpa using h2
     rw [hfm] at HFm
     obtain rfl : r = false := by
      have h1 := HQ.1; rw [hq] at h1; simpa using h1
     clear HQ HSt hfm hq; refine start_ (n := 17) (S := fun w' => w'.cell? ⟨gb, 0, none⟩ = some (.int .i64 (rd_T96 l0 x).f0) ∧ w'.cell? ⟨gb, 1, none⟩ = some (.int .i64 (rd_T96 l0 x).f1) ∧ w'.cell? ⟨gb, 2, none⟩ = some (.int .i64 (rd_T96 l0 x).f2) ∧ w'.cell? ⟨gb, 3, none⟩ = some (.int .i64 (rd_T96 l0 x).f3) ∧ w'.cell? ⟨gb, 4, none⟩ = some (.int .i64 (rd_T96 l0 x).f4) ∧ w'.cell? ⟨w.heap.size, 0, none⟩ = some (.slice (some ad) l0.length c0)) (ds := []) (ba_ 17 0) kr_ rfl rfl ⟨(blk_cell BK.1 0).trans rfl, (blk_cell BK.1 1).trans rfl, (blk_cell BK.1 2).trans rfl, (blk_cell BK.1 3).trans rfl, (blk_cell BK.1 4).trans rfl, ((HB.1.cell (World.block_lt_of_cell? w1 _ HX.1)).trans HX.1)⟩ (fun hHeld => ?_); refine with_tabW impl_LotsOk.tab4 impl_LotsOk.bits4 (fun HT_ HW_ => ?_)
     refine ta_ 0 12 HT_.1 HW_.1 hHeld (ba_ 17 1) ?_; refine one_ (i := 1) (N := some 13) (ba_ 17 3) rfl rfl (one_of HT_.1 kr_) (by decide) (fun K hK => ?_)
     refine goes_ Try.func93 kr_ rfl #[.agg #[.int .i64 (rd_T96 l0 x).f0, .int .i64 (rd_T96 l0 x).f1, .int .i64 (rd_T96 l0 x).f2, .int .i64 (rd_T96 l0 x).f3, .int .i64 (rd_T96 l0 x).f4]] (by rfl) rfl rfl (by (try simp only [List.map_toArray, List.map_cons, List.map_nil]); first | done | rfl | (simp only [i64_w]; rfl)) ?_
     with_reducible refine (impl_lotForm.calls _ _ _ _ _ false _ HFm.1).mono ?_
     rintro e w7 ⟨rfl, hb⟩; refine ⟨_, rfl, ?_⟩
     have n_ := as2_ (bl_ BK.1 hb) (below_step (bg_ GE.1) hb); clear BK HB; obtain ⟨BK, HB⟩ := n_; clear hb; refine hK.out _ _ ⟨(blk_cell BK.1 0).trans rfl, (blk_cell BK.1 1).trans rfl, (blk_cell BK.1 2).trans rfl, (blk_cell BK.1 3).trans rfl, (blk_cell BK.1 4).trans rfl, ((HB.1.cell (World.block_lt_of_cell? w1 _ HX.1)).trans HX.1)⟩ (fun hHeld => ?_)
     clear hK K; refine norm_ (a' := ?_) ?_ ?_
     rotate_left
     ·
      show Act.put _ (some 13) _ = _
      exact sp_
     refine pu_ 2 14 HT_.1 (ba_ 17 7) ?_; refine pu_ 3 15 HT_.1 (ba_ 17 15) ?_; refine sk_ 4 16 HT_.1 (ba_ 17 31) ?_; refine sk_ 5 17 HT_.1 (ba_ 17 63) ?_; refine sk_ 6 18 HT_.1 (ba_ 17 127) ?_; refine sk_ 7 19 HT_.1 (ba_ 17 255) ?_; refine sk_ 8 20 HT_.1 (ba_ 17 511) ?_; refine sk_ 9 21 HT_.1 (ba_ 17 1023) ?_; refine sk_ 10 22 HT_.1 (ba_ 17 2047) ?_; refine sk_ 11 23 HT_.1 (ba_ 17 4095) ?_; refine sk_ 12 24 HT_.1 (ba_ 17 8191) ?_; refine sk_ 13 25 HT_.1 (ba_ 17 16383) ?_; refine sk_ 14 26 HT_.1 (ba_ 17 32767) ?_; refine sk_ 15 27 HT_.1 (ba_ 17 65535) ?_; refine pu_ 16 28 HT_.1 (ba_ 17 131071) ?_; refine done_ (done_of HT_.1 kr_) ?_
     go_wp2; go_ret; exact ⟨rs_, below_step HW.1 (bg_ GE.1)⟩
    | true =>
     rw [hfm] at HFm
     by_cases c10 : x > 0
     ·
      have c10b0 : decide (0 < x) = true := decide_eq_true c10
      have hw1 : wrap64 (x - 1) = x - 1 := by
       have h1 := HA.1; have h2 := HL.1; unfold wrap64
       omega
      have PP : Aside0 (0 ≤ wrap64 (x - 1)) := ⟨by omega⟩
      have QQ : Aside0 (wrap64 (x - 1) < (l0.length : Int)) := ⟨by have := C3.1; omega⟩
      have HCm := Aside0.mk (impl_LotsOk.cmp_ (rd_T96 l0 (wrap64 (x - 1))) (rd_T96 l0 x))
      have HS2 : Aside0 (impl_LotsOk.chk l0 ((l0.length - (x + 1)).toNat + 1) x.toNat = if 0 ≤ impl_LotsOk.cmp (rd_T96 l0 (wrap64 (x - 1))) (rd_T96 l0 x) then false else impl_LotsOk.chk l0 (l0.length - (x + 1)).toNat (x + 1).toNat) := ⟨by
       have h1 := HSt.1; rw [hfm, if_pos rfl, if_pos c10, ← hw1] at h1; exact h1⟩
      clear HSt hfm c10 hw1; generalize impl_LotsOk.cmp (rd_T96 l0 (wrap64 (x - 1))) (rd_T96 l0 x) = cc at HCm HS2
      by_cases c11 : cc ≥ 0
      ·
       have c11b0 : decide (0 ≤ cc) = true := decide_eq_true c11
       have hq : q0 = false := by
        have h2 := HS2.1; rw [if_pos c11] at h2; exact HKx.1.symm.trans h2
       obtain rfl : r = false := by
        have h1 := HQ.1; rw [hq] at h1; simpa using h1
       clear HQ HS2 hq c11; obtain ⟨ad2, e2, hx2_0, hx2_1, hx2_2, hx2_3, hx2_4⟩ := at_T96 HR1.1 (wrap64 (x - 1)) PP.1 QQ.1; have hw_4 := hx2_4; have hw_3 := hx2_3; have hw_2 := hx2_2; have hw_1 := hx2_1; have hw_0 := hx2_0; obtain rfl : ad = ad2 := (by injection e2)
       replace hx2_0 := (HB.1.cell (World.block_lt_of_cell? w1 _ hx2_0)).trans hx2_0; replace hx2_1 := (HB.1.cell (World.block_lt_of_cell? w1 _ hx2_1)).trans hx2_1; replace hx2_2 := (HB.1.cell (World.block_lt_of_cell? w1 _ hx2_2)).trans hx2_2; replace hx2_3 := (HB.1.cell (World.block_lt_of_cell? w1 _ hx2_3)).trans hx2_3; replace hx2_4 := (HB.1.cell (World.block_lt_of_cell? w1 _ hx2_4)).trans hx2_4; have p2 := eq_true PP.1; have q2 := eq_true QQ.1
       refine start_ (n := 17) (S := fun w' => w'.cell? ⟨gb, 0, none⟩ = some (.int .i64 (rd_T96 l0 x).f0) ∧ w'.cell? ⟨gb, 1, none⟩ = some (.int .i64 (rd_T96 l0 x).f1) ∧ w'.cell? ⟨gb, 2, none⟩ = some (.int .i64 (rd_T96 l0 x).f2) ∧ w'.cell? ⟨gb, 3, none⟩ = some (.int .i64 (rd_T96 l0 x).f3) ∧ w'.cell? ⟨gb, 4, none⟩ = some (.int .i64 (rd_T96 l0 x).f4) ∧ w'.cell? ⟨w.heap.size, 0, none⟩ = some (.slice (some ad) l0.length c0) ∧ w'.cell? (ad.add ((wrap64 (x - 1)).toNat * 5)) = some (.int .i64 ((rd_T96 l0 (wrap64 (x - 1))).f0)) ∧ w'.cell? ⟨(ad.add ((wrap64 (x - 1)).toNat * 5)).block, (ad.add ((wrap64 (x - 1)).toNat * 5)).off + 1, none⟩ = some (.int .i64 ((rd_T96 l0 (wrap64 (x - 1))).f1)) ∧ w'.cell? ⟨(ad.add ((wrap64 (x - 1)).toNat * 5)).block, (ad.add ((wrap64 (x - 1)).toNat * 5)).off + 2, none⟩ = some (.int .i64 ((rd_T96 l0 (wrap64 (x - 1))).f2)) ∧ w'.cell? ⟨(ad.add ((wrap64 (x - 1)).toNat * 5)).block, (ad.add ((wrap64 (x - 1)).toNat * 5)).off + 3, none⟩ = some (.int .i64 ((rd_T96 l0 (wrap64 (x - 1))).f3)) ∧ w'.cell? ⟨(ad.add ((wrap64 (x - 1)).toNat * 5)).block, (ad.add ((wrap64 (x - 1)).toNat * 5)).off + 4, none⟩ = some (.int .i64 ((rd_T96 l0 (wrap64 (x - 1))).f4))) (ds := []) (ba_ 17 0) kr_ rfl rfl ⟨(blk_cell BK.1 0).trans rfl, (blk_cell BK.1 1).trans rfl, (blk_cell BK.1 2).trans rfl, (blk_cell BK.1 3).trans rfl, (blk_cell BK.1 4).trans rfl, ((HB.1.cell (World.block_lt_of_cell? w1 _ HX.1)).trans HX.1), ((HB.1.cell (World.block_lt_of_cell? w1 _ hw_0)).trans hw_0), ((HB.1.cell (World.block_lt_of_cell? w1 _ hw_1)).trans hw_1), ((HB.1.cell (World.block_lt_of_cell? w1 _ hw_2)).trans hw_2), ((HB.1.cell (World.block_lt_of_cell? w1 _ hw_3)).trans hw_3), ((HB.1.cell (World.block_lt_of_cell? w1 _ hw_4)).trans hw_4)⟩ (fun hHeld => ?_); refine with_tabW impl_LotsOk.tab4 impl_LotsOk.bits4 (fun HT_ HW_ => ?_)
       refine ta_ 0 12 HT_.1 HW_.1 hHeld (ba_ 17 1) ?_; refine one_ (i := 1) (N := some 13) (ba_ 17 3) rfl rfl (one_of HT_.1 kr_) (by decide) (fun K hK => ?_)
       refine goes_ Try.func93 kr_ rfl #[.agg #[.int .i64 (rd_T96 l0 x).f0, .int .i64 (rd_T96 l0 x).f1, .int .i64 (rd_T96 l0 x).f2, .int .i64 (rd_T96 l0 x).f3, .int .i64 (rd_T96 l0 x).f4]] (by rfl) rfl rfl (by (try simp only [List.map_toArray, List.map_cons, List.map_nil]); first | done | rfl | (simp only [i64_w]; rfl)) ?_
       with_reducible refine (impl_lotForm.calls _ _ _ _ _ true _ HFm.1).mono ?_
       rintro e w7 ⟨rfl, hb⟩; refine ⟨_, rfl, ?_⟩
       have n_ := as2_ (bl_ BK.1 hb) (below_step (bg_ GE.1) hb); clear BK HB; obtain ⟨BK, HB⟩ := n_; clear hb; refine hK.out _ _ ⟨(blk_cell BK.1 0).trans rfl, (blk_cell BK.1 1).trans rfl, (blk_cell BK.1 2).trans rfl, (blk_cell BK.1 3).trans rfl, (blk_cell BK.1 4).trans rfl, ((HB.1.cell (World.block_lt_of_cell? w1 _ HX.1)).trans HX.1), ((HB.1.cell (World.block_lt_of_cell? w1 _ hw_0)).trans hw_0), ((HB.1.cell (World.block_lt_of_cell? w1 _ hw_1)).trans hw_1), ((HB.1.cell (World.block_lt_of_cell? w1 _ hw_2)).trans hw_2), ((HB.1.cell (World.block_lt_of_cell? w1 _ hw_3)).trans hw_3), ((HB.1.cell (World.block_lt_of_cell? w1 _ hw_4)).trans hw_4)⟩ (fun hHeld => ?_)
       clear hK K; refine norm_ (a' := ?_) ?_ ?_
       rotate_left
       ·
        show Act.put _ (some 13) _ = _
        exact sp_
       refine pu_ 2 14 HT_.1 (ba_ 17 7) ?_; refine pu_ 3 15 HT_.1 (ba_ 17 15) ?_; refine pu_ 4 16 HT_.1 (ba_ 17 31) ?_; refine pu_ 5 17 HT_.1 (ba_ 17 63) ?_; refine pu_ 6 18 HT_.1 (ba_ 17 127) ?_; refine ta_ 7 19 HT_.1 HW_.1 hHeld (ba_ 17 255) ?_; refine pu_ 8 20 HT_.1 (ba_ 17 511) ?_; refine pu_ 9 21 HT_.1 (ba_ 17 1023) ?_; refine pu_ 10 22 HT_.1 (ba_ 17 2047) ?_; refine ta_ 11 23 HT_.1 HW_.1 hHeld (ba_ 17 4095) ?_; refine ta_ 12 24 HT_.1 HW_.1 hHeld (ba_ 17 8191) ?_; refine one_ (i := 13) (N := some 25) (ba_ 17 16383) rfl rfl (one_of HT_.1 kr_) (by decide) (fun K hK => ?_)
       refine goes_ Try.func94 kr_ rfl #[.agg #[.int .i64 ((rd_T96 l0 (wrap64 (x - 1))).f0), .int .i64 ((rd_T96 l0 (wrap64 (x - 1))).f1), .int .i64 ((rd_T96 l0 (wrap64 (x - 1))).f2), .int .i64 ((rd_T96 l0 (wrap64 (x - 1))).f3), .int .i64 ((rd_T96 l0 (wrap64 (x - 1))).f4)], .agg #[.int .i64 (rd_T96 l0 x).f0, .int .i64 (rd_T96 l0 x).f1, .int .i64 (rd_T96 l0 x).f2, .int .i64 (rd_T96 l0 x).f3, .int .i64 (rd_T96 l0 x).f4]] (by rfl) rfl rfl (by (try simp only [List.map_toArray, List.map_cons, List.map_nil]); first | done | rfl | (simp only [i64_w]; rfl)) ?_
       with_reducible refine (impl_lotBefore.calls 1 _ _ _ _ _ _ _ _ _ _ cc _ HCm.1).mono ?_
       rintro e w8 ⟨rfl, hb⟩; refine ⟨_, rfl, ?_⟩
       have n_ := as2_ (bl_ BK.1 hb) (below_step (bg_ GE.1) hb); clear BK HB; obtain ⟨BK, HB⟩ := n_; clear hb; refine hK.out _ _ ⟨(blk_cell BK.1 0).trans rfl, (blk_cell BK.1 1).trans rfl, (blk_cell BK.1 2).trans rfl, (blk_cell BK.1 3).trans rfl, (blk_cell BK.1 4).trans rfl, ((HB.1.cell (World.block_lt_of_cell? w1 _ HX.1)).trans HX.1), ((HB.1.cell (World.block_lt_of_cell? w1 _ hw_0)).trans hw_0), ((HB.1.cell (World.block_lt_of_cell? w1 _ hw_1)).trans hw_1), ((HB.1.cell (World.block_lt_of_cell? w1 _ hw_2)).trans hw_2), ((HB.1.cell (World.block_lt_of_cell? w1 _ hw_3)).trans hw_3), ((HB.1.cell (World.block_lt_of_cell? w1 _ hw_4)).trans hw_4)⟩ (fun hHeld => ?_)
       clear hK K; refine norm_ (a' := ?_) ?_ ?_
       rotate_left
       ·
        show Act.put _ (some 25) _ = _
        exact sp_
       refine pu_ 14 26 HT_.1 (ba_ 17 32767) ?_; refine pu_ 15 27 HT_.1 (ba_ 17 65535) ?_; refine pu_ 16 28 HT_.1 (ba_ 17 131071) ?_; refine done_ (done_of HT_.1 kr_) ?_
       go_wp2; go_ret; exact ⟨rs_, below_step HW.1 (bg_ GE.1)⟩
      ·
       have c11b0 : decide (0 ≤ cc) = false := decide_eq_false c11
       have NX : Aside0 (impl_LotsOk.chk l0 (l0.length - (x + 1)).toNat (x + 1).toNat = q0) := ⟨by
        have h2 := HS2.1; rw [if_neg c11] at h2; exact h2.symm.trans HKx.1⟩
       clear HS2 c11; obtain ⟨ad2, e2, hx2_0, hx2_1, hx2_2, hx2_3, hx2_4⟩ := at_T96 HR1.1 (wrap64 (x - 1)) PP.1 QQ.1; have hw_4 := hx2_4; have hw_3 := hx2_3; have hw_2 := hx2_2; have hw_1 := hx2_1; have hw_0 := hx2_0; obtain rfl : ad = ad2 := (by injection e2)
       replace hx2_0 := (HB.1.cell (World.block_lt_of_cell? w1 _ hx2_0)).trans hx2_0; replace hx2_1 := (HB.1.cell (World.block_lt_of_cell? w1 _ hx2_1)).trans hx2_1; replace hx2_2 := (HB.1.cell (World.block_lt_of_cell? w1 _ hx2_2)).trans hx2_2; replace hx2_3 := (HB.1.cell (World.block_lt_of_cell? w1 _ hx2_3)).trans hx2_3; replace hx2_4 := (HB.1.cell (World.block_lt_of_cell? w1 _ hx2_4)).trans hx2_4; have p2 := eq_true PP.1; have q2 := eq_true QQ.1
       refine start_ (n := 17) (S := fun w' => w'.cell? ⟨gb, 0, none⟩ = some (.int .i64 (rd_T96 l0 x).f0) ∧ w'.cell? ⟨gb, 1, none⟩ = some (.int .i64 (rd_T96 l0 x).f1) ∧ w'.cell? ⟨gb, 2, none⟩ = some (.int .i64 (rd_T96 l0 x).f2) ∧ w'.cell? ⟨gb, 3, none⟩ = some (.int .i64 (rd_T96 l0 x).f3) ∧ w'.cell? ⟨gb, 4, none⟩ = some (.int .i64 (rd_T96 l0 x).f4) ∧ w'.cell? ⟨w.heap.size, 0, none⟩ = some (.slice (some ad) l0.length c0) ∧ w'.cell? (ad.add ((wrap64 (x - 1)).toNat * 5)) = some (.int .i64 ((rd_T96 l0 (wrap64 (x - 1))).f0)) ∧ w'.cell? ⟨(ad.add ((wrap64 (x - 1)).toNat * 5)).block, (ad.add ((wrap64 (x - 1)).toNat * 5)).off + 1, none⟩ = some (.int .i64 ((rd_T96 l0 (wrap64 (x - 1))).f1)) ∧ w'.cell? ⟨(ad.add ((wrap64 (x - 1)).toNat * 5)).block, (ad.add ((wrap64 (x - 1)).toNat * 5)).off + 2, none⟩ = some (.int .i64 ((rd_T96 l0 (wrap64 (x - 1))).f2)) ∧ w'.cell? ⟨(ad.add ((wrap64 (x - 1)).toNat * 5)).block, (ad.add ((wrap64 (x - 1)).toNat * 5)).off + 3, none⟩ = some (.int .i64 ((rd_T96 l0 (wrap64 (x - 1))).f3)) ∧ w'.cell? ⟨(ad.add ((wrap64 (x - 1)).toNat * 5)).block, (ad.add ((wrap64 (x - 1)).toNat * 5)).off + 4, none⟩ = some (.int .i64 ((rd_T96 l0 (wrap64 (x - 1))).f4))) (ds := []) (ba_ 17 0) kr_ rfl rfl ⟨(blk_cell BK.1 0).trans rfl, (blk_cell BK.1 1).trans rfl, (blk_cell BK.1 2).trans rfl, (blk_cell BK.1 3).trans rfl, (blk_cell BK.1 4).trans rfl, ((HB.1.cell (World.block_lt_of_cell? w1 _ HX.1)).trans HX.1), ((HB.1.cell (World.block_lt_of_cell? w1 _ hw_0)).trans hw_0), ((HB.1.cell (World.block_lt_of_cell? w1 _ hw_1)).trans hw_1), ((HB.1.cell (World.block_lt_of_cell? w1 _ hw_2)).trans hw_2), ((HB.1.cell (World.block_lt_of_cell? w1 _ hw_3)).trans hw_3), ((HB.1.cell (World.block_lt_of_cell? w1 _ hw_4)).trans hw_4)⟩ (fun hHeld => ?_); refine with_tabW impl_LotsOk.tab4 impl_LotsOk.bits4 (fun HT_ HW_ => ?_)
       refine ta_ 0 12 HT_.1 HW_.1 hHeld (ba_ 17 1) ?_; refine one_ (i := 1) (N := some 13) (ba_ 17 3) rfl rfl (one_of HT_.1 kr_) (by decide) (fun K hK => ?_)
       refine goes_ Try.func93 kr_ rfl #[.agg #[.int .i64 (rd_T96 l0 x).f0, .int .i64 (rd_T96 l0 x).f1, .int .i64 (rd_T96 l0 x).f2, .int .i64 (rd_T96 l0 x).f3, .int .i64 (rd_T96 l0 x).f4]] (by rfl) rfl rfl (by (try simp only [List.map_toArray, List.map_cons, List.map_nil]); first | done | rfl | (simp only [i64_w]; rfl)) ?_
       with_reducible refine (impl_lotForm.calls _ _ _ _ _ true _ HFm.1).mono ?_
       rintro e w7 ⟨rfl, hb⟩; refine ⟨_, rfl, ?_⟩
       have n_ := as2_ (bl_ BK.1 hb) (below_step (bg_ GE.1) hb); clear BK HB; obtain ⟨BK, HB⟩ := n_; clear hb; refine hK.out _ _ ⟨(blk_cell BK.1 0).trans rfl, (blk_cell BK.1 1).trans rfl, (blk_cell BK.1 2).trans rfl, (blk_cell BK.1 3).trans rfl, (blk_cell BK.1 4).trans rfl, ((HB.1.cell (World.block_lt_of_cell? w1 _ HX.1)).trans HX.1), ((HB.1.cell (World.block_lt_of_cell? w1 _ hw_0)).trans hw_0), ((HB.1.cell (World.block_lt_of_cell? w1 _ hw_1)).trans hw_1), ((HB.1.cell (World.block_lt_of_cell? w1 _ hw_2)).trans hw_2), ((HB.1.cell (World.block_lt_of_cell? w1 _ hw_3)).trans hw_3), ((HB.1.cell (World.block_lt_of_cell? w1 _ hw_4)).trans hw_4)⟩ (fun hHeld => ?_)
       clear hK K; refine norm_ (a' := ?_) ?_ ?_
       rotate_left
       ·
        show Act.put _ (some 13) _ = _
        exact sp_
       refine pu_ 2 14 HT_.1 (ba_ 17 7) ?_; refine pu_ 3 15 HT_.1 (ba_ 17 15) ?_; refine pu_ 4 16 HT_.1 (ba_ 17 31) ?_; refine pu_ 5 17 HT_.1 (ba_ 17 63) ?_; refine pu_ 6 18 HT_.1 (ba_ 17 127) ?_; refine ta_ 7 19 HT_.1 HW_.1 hHeld (ba_ 17 255) ?_; refine pu_ 8 20 HT_.1 (ba_ 17 511) ?_; refine pu_ 9 21 HT_.1 (ba_ 17 1023) ?_; refine pu_ 10 22 HT_.1 (ba_ 17 2047) ?_; refine ta_ 11 23 HT_.1 HW_.1 hHeld (ba_ 17 4095) ?_; refine ta_ 12 24 HT_.1 HW_.1 hHeld (ba_ 17 8191) ?_; refine one_ (i := 13) (N := some 25) (ba_ 17 16383) rfl rfl (one_of HT_.1 kr_) (by decide) (fun K hK => ?_)
       refine goes_ Try.func94 kr_ rfl #[.agg #[.int .i64 ((rd_T96 l0 (wrap64 (x - 1))).f0), .int .i64 ((rd_T96 l0 (wrap64 (x - 1))).f1), .int .i64 ((rd_T96 l0 (wrap64 (x - 1))).f2), .int .i64 ((rd_T96 l0 (wrap64 (x - 1))).f3), .int .i64 ((rd_T96 l0 (wrap64 (x - 1))).f4)], .agg #[.int .i64 (rd_T96 l0 x).f0, .int .i64 (rd_T96 l0 x).f1, .int .i64 (rd_T96 l0 x).f2, .int .i64 (rd_T96 l0 x).f3, .int .i64 (rd_T96 l0 x).f4]] (by rfl) rfl rfl (by (try simp only [List.map_toArray, List.map_cons, List.map_nil]); first | done | rfl | (simp only [i64_w]; rfl)) ?_
       with_reducible refine (impl_lotBefore.calls 1 _ _ _ _ _ _ _ _ _ _ cc _ HCm.1).mono ?_
       rintro e w8 ⟨rfl, hb⟩; refine ⟨_, rfl, ?_⟩
       have n_ := as2_ (bl_ BK.1 hb) (below_step (bg_ GE.1) hb); clear BK HB; obtain ⟨BK, HB⟩ := n_; clear hb; refine hK.out _ _ ⟨(blk_cell BK.1 0).trans rfl, (blk_cell BK.1 1).trans rfl, (blk_cell BK.1 2).trans rfl, (blk_cell BK.1 3).trans rfl, (blk_cell BK.1 4).trans rfl, ((HB.1.cell (World.block_lt_of_cell? w1 _ HX.1)).trans HX.1), ((HB.1.cell (World.block_lt_of_cell? w1 _ hw_0)).trans hw_0), ((HB.1.cell (World.block_lt_of_cell? w1 _ hw_1)).trans hw_1), ((HB.1.cell (World.block_lt_of_cell? w1 _ hw_2)).trans hw_2), ((HB.1.cell (World.block_lt_of_cell? w1 _ hw_3)).trans hw_3), ((HB.1.cell (World.block_lt_of_cell? w1 _ hw_4)).trans hw_4)⟩ (fun hHeld => ?_)
       clear hK K; refine norm_ (a' := ?_) ?_ ?_
       rotate_left
       ·
        show Act.put _ (some 25) _ = _
        exact sp_
       refine pu_ 14 26 HT_.1 (ba_ 17 32767) ?_; refine pu_ 15 27 HT_.1 (ba_ 17 65535) ?_; refine pu_ 16 28 HT_.1 (ba_ 17 131071) ?_; refine done_ (done_of HT_.1 kr_) ?_
       try go_wp2
       go_roundg (l0.length - (x + 1)).toNat
       case measure => have := HA.1; have := C3.1; omega
       case rel =>
        have h1 := HA.1; have h2 := C3.1; refine ⟨wrap64 (x + 1), (rs_), ⟨?_⟩, ⟨bg_ GE.1⟩⟩
        have hw : wrap64 (x + 1) = x + 1 := by
         have := HL.1; unfold wrap64
         omega
        rw [hw]
        exact ⟨by omega, by omega, rfl, NX.1⟩
     ·
      have c10b0 : decide (0 < x) = false := decide_eq_false c10
      have NX : Aside0 (impl_LotsOk.chk l0 (l0.length - (x + 1)).toNat (x + 1).toNat = q0) := ⟨by
       have h1 := HSt.1; rw [hfm, if_pos rfl, if_neg c10] at h1; exact h1.symm.trans HKx.1⟩
      clear HSt hfm c10; refine start_ (n := 17) (S := fun w' => w'.cell? ⟨gb, 0, none⟩ = some (.int .i64 (rd_T96 l0 x).f0) ∧ w'.cell? ⟨gb, 1, none⟩ = some (.int .i64 (rd_T96 l0 x).f1) ∧ w'.cell? ⟨gb, 2, none⟩ = some (.int .i64 (rd_T96 l0 x).f2) ∧ w'.cell? ⟨gb, 3, none⟩ = some (.int .i64 (rd_T96 l0 x).f3) ∧ w'.cell? ⟨gb, 4, none⟩ = some (.int .i64 (rd_T96 l0 x).f4) ∧ w'.cell? ⟨w.heap.size, 0, none⟩ = some (.slice (some ad) l0.length c0)) (ds := []) (ba_ 17 0) kr_ rfl rfl ⟨(blk_cell BK.1 0).trans rfl, (blk_cell BK.1 1).trans rfl, (blk_cell BK.1 2).trans rfl, (blk_cell BK.1 3).trans rfl, (blk_cell BK.1 4).trans rfl, ((HB.1.cell (World.block_lt_of_cell? w1 _ HX.1)).trans HX.1)⟩ (fun hHeld => ?_); refine with_tabW impl_LotsOk.tab4 impl_LotsOk.bits4 (fun HT_ HW_ => ?_)
      refine ta_ 0 12 HT_.1 HW_.1 hHeld (ba_ 17 1) ?_; refine one_ (i := 1) (N := some 13) (ba_ 17 3) rfl rfl (one_of HT_.1 kr_) (by decide) (fun K hK => ?_)
      refine goes_ Try.func93 kr_ rfl #[.agg #[.int .i64 (rd_T96 l0 x).f0, .int .i64 (rd_T96 l0 x).f1, .int .i64 (rd_T96 l0 x).f2, .int .i64 (rd_T96 l0 x).f3, .int .i64 (rd_T96 l0 x).f4]] (by rfl) rfl rfl (by (try simp only [List.map_toArray, List.map_cons, List.map_nil]); first | done | rfl | (simp only [i64_w]; rfl)) ?_
      with_reducible refine (impl_lotForm.calls _ _ _ _ _ true _ HFm.1).mono ?_
      rintro e w7 ⟨rfl, hb⟩; refine ⟨_, rfl, ?_⟩
      have n_ := as2_ (bl_ BK.1 hb) (below_step (bg_ GE.1) hb); clear BK HB; obtain ⟨BK, HB⟩ := n_; clear hb; refine hK.out _ _ ⟨(blk_cell BK.1 0).trans rfl, (blk_cell BK.1 1).trans rfl, (blk_cell BK.1 2).trans rfl, (blk_cell BK.1 3).trans rfl, (blk_cell BK.1 4).trans rfl, ((HB.1.cell (World.block_lt_of_cell? w1 _ HX.1)).trans HX.1)⟩ (fun hHeld => ?_)
      clear hK K; refine norm_ (a' := ?_) ?_ ?_
      rotate_left
      ·
       show Act.put _ (some 13) _ = _
       exact sp_
      refine pu_ 2 14 HT_.1 (ba_ 17 7) ?_; refine pu_ 3 15 HT_.1 (ba_ 17 15) ?_; refine pu_ 4 16 HT_.1 (ba_ 17 31) ?_; refine pu_ 5 17 HT_.1 (ba_ 17 63) ?_; refine pu_ 6 18 HT_.1 (ba_ 17 127) ?_; refine sk_ 7 19 HT_.1 (ba_ 17 255) ?_; refine sk_ 8 20 HT_.1 (ba_ 17 511) ?_; refine sk_ 9 21 HT_.1 (ba_ 17 1023) ?_; refine sk_ 10 22 HT_.1 (ba_ 17 2047) ?_; refine sk_ 11 23 HT_.1 (ba_ 17 4095) ?_; refine sk_ 12 24 HT_.1 (ba_ 17 8191) ?_; refine sk_ 13 25 HT_.1 (ba_ 17 16383) ?_; refine sk_ 14 26 HT_.1 (ba_ 17 32767) ?_; refine pu_ 15 27 HT_.1 (ba_ 17 65535) ?_; refine pu_ 16 28 HT_.1 (ba_ 17 131071) ?_; refine done_ (done_of HT_.1 kr_) ?_
      try go_wp2
      go_roundg (l0.length - (x + 1)).toNat
      case measure => have := HA.1; have := C3.1; omega
      case rel =>
       have h1 := HA.1; have h2 := C3.1; refine ⟨wrap64 (x + 1), (rs_), ⟨?_⟩, ⟨bg_ GE.1⟩⟩
       have hw : wrap64 (x + 1) = x + 1 := by
        have := HL.1; unfold wrap64
        omega
       rw [hw]
       exact ⟨by omega, by omega, rfl, NX.1⟩
   ·
    have c3b0 : decide (x < (l0.length : Int)) = false := decide_eq_false c3
    have hq : q0 = true := by
     have h1 := HA.1; have e1 : (l0.length - x).toNat = 0 := by omega
     have h2 := h1.2.2.2; rw [e1] at h2; exact h2.symm
    have HQ2 : Aside0 (r = if (l0.length : Int) > 120 then false else !(l0.any (impl_LotsOk.over l0))) := ⟨by
     have h1 := HQ.1; rw [hq, if_pos rfl] at h1; exact h1⟩
    clear HQ hq c3; have hcb := (HB.1.cell (World.block_lt_of_cell? w1 _ HX.1)).trans HX.1
    by_cases c4 : (l0.length : Int) > 120
    ·
     have c4b0 : decide (120 < (l0.length : Int)) = true := decide_eq_true c4; have c4b1 : decide (120 < l0.length) = true := decide_eq_true (by omega)
     obtain rfl : r = false := by
      have h1 := HQ2.1; rw [if_pos c4] at h1; exact h1
     clear c4 HQ2; go_wp2; go_ret; exact ⟨rs_, below_step HW.1 (bb_)⟩
    ·
     have c4b0 : decide (120 < (l0.length : Int)) = false := decide_eq_false c4; have c4b1 : decide (120 < l0.length) = false := decide_eq_false (by omega)
     obtain rfl : r = !(l0.any (impl_LotsOk.over l0)) := by
      have h1 := HQ2.1; rw [if_neg c4] at h1; exact h1
     clear c4 HQ2; go_wp2_with (first | (go_at_call 95; refine (ContainsFunc_st96.calls A0 c0 l0 96 #[.pointer (some ⟨w.heap.size, 0, none⟩)] (impl_LotsOk.over l0) _ (Kd.C_below HR1.1 HB.1) HC0.1 (impl_LotsOk.pred ((HB.1.cell (World.block_lt_of_cell? w1 _ HX.1)).trans HX.1) (Kd.C_below HR1.1 HB.1) HC0.1 HL.1)).mono ?_; rintro e w9 ⟨rfl, hb⟩; replace HB := Aside0.mk (below_step HB.1 hb); clear hb))
     go_ret; exact ⟨rs_, below_step HW.1 (bb_)⟩
 ·
  rw [if_neg hl] at h; cases h
def impl_accountKind.l0 : Nat → Int → List (S88) → Int → Int → Option (Int)
 | 0, _, _, _, _ => none
 | k + 1, x1, x7, x8, x9 => if x9 < x8 then (if 0 ≤ x9 then (if x9 < (x7.length : Int) then (if (rd_T88 x7 x9).f0 = x1 then (some (rd_T88 x7 x9).f1) else (impl_accountKind.l0 k x1 x7 x8 (wrap64 (x9 + 1)))) else (none)) else (none)) else (some 0)
def impl_accountKind.f (k : Nat) (l0 : List (S88)) (a1 : Int) : Option (Int) := impl_accountKind.l0 k a1 l0 (l0.length : Int) 0
theorem impl_accountKind.calls (k : Nat) (A0 : Option Addr) (c0 : Nat) (l0 : List (S88)) (a1 : Int) (r : Int) (w : World) (hr0 : Kd.C k88 w A0 l0.length l0) (hc0 : l0.length ≤ c0) (h : impl_accountKind.f k l0 a1 = some r) :
 Calls Try.prog 99 #[.slice A0 l0.length c0, .int .i64 a1] w fun e w' => e = .returned (.int .i64 r) ∧ Below w.heap.size w w' := by
 have hu88 := Try.underlying88; have HR0 := Aside0.mk hr0; have HC0 := Aside0.mk hc0; clear hr0 hc0; have HB := Aside0.mk (Below.refl w.heap.size w); have H : (impl_accountKind.l0 k a1 l0 (l0.length : Int) 0) = some r := h; clear h; have H' := Aside0.mk H; clear H; go_enter Try.func99, Try.ntmps99; go_wp2; go_loopg [9] k (fun kq v9 w' => ∃ (x9_1 : Int), v9 = .int .i64 x9_1 ∧ Aside0 (impl_accountKind.l0 kq a1 l0 (l0.length : Int) x9_1 = some r) ∧ Aside0 (kq ≤ k) ∧ Aside0 (Below w.heap.size w w'))
 case atStart => exact ⟨(0), (rs_), H', ⟨Nat.le_refl _⟩, ⟨bb_⟩⟩
 case round =>
  clear H'; try clear p2
  obtain ⟨x9_1, rfl, HA, HK1, HB⟩ := hrel
  cases gk with
  | zero => exact absurd HA.1 (by simp [impl_accountKind.l0])
  | succ k1 =>
   have H := HA.1; clear HA; simp only [impl_accountKind.l0] at H
   by_cases c3 : x9_1 < (l0.length : Int)
   ·
    rw [if_pos c3] at H; have c3b0 : decide (x9_1 < (l0.length : Int)) = true := decide_eq_true c3; clear c3
    by_cases c4 : 0 ≤ x9_1
    ·
     rw [if_pos c4] at H; have c4b0 : decide (0 ≤ x9_1) = true := decide_eq_true c4; clear c4
     by_cases c5 : x9_1 < (l0.length : Int)
     ·
      rw [if_pos c5] at H; have c5b0 : decide (x9_1 < (l0.length : Int)) = true := decide_eq_true c5; clear c5
      by_cases c6 : (rd_T88 l0 x9_1).f0 = a1
      ·
       rw [if_pos c6] at H; have c6b0 : ((rd_T88 l0 x9_1).f0 == a1) = true := beq_iff_eq.mpr c6; have c6b1 : ((rd_T88 l0 x9_1).f0 != a1) = false := bne_eq_false_iff_eq.mpr c6; clear c6; obtain rfl := Option.some.inj H; have p407 : 0 ≤ (x9_1 : Int) := od_; have q407 : x9_1 < (l0.length : Int) := od_; obtain ⟨ad407, e407, hx407_0, hx407_1⟩ := at_T88 HR0.1 x9_1 p407 q407; cases e407; have n_ := cl2_ HB.1 hx407_0 hx407_1; clear hx407_0 hx407_1; obtain ⟨hx407_0, hx407_1⟩ := n_; replace p407 := eq_true p407; replace q407 := eq_true q407; go_wp2_with (first | ((with_reducible refine gate_dst (N := 6) rfl ?_); refine be_ 6 (cs := #[.int .i64 0, .int .i64 0]) (t := 88) ?_; intro gb408 hg w7 hbox hb; have n_ := bx_ hg hbox hb; clear HB; obtain ⟨HB, BK408, GW408, GE408⟩ := n_; clear hb hbox hg; obtain ⟨_, _, _, _⟩ := ce2_ BK408.1))
       go_ret; exact ⟨er_, bg_ GE408.1⟩
      ·
       rw [if_neg c6] at H; have c6b0 : ((rd_T88 l0 x9_1).f0 == a1) = false := beq_eq_false_iff_ne.mpr c6; have c6b1 : ((rd_T88 l0 x9_1).f0 != a1) = true := bne_iff_ne.mpr c6; have H' := Aside0.mk H; clear H; have p407 : 0 ≤ (x9_1 : Int) := od_; have q407 : x9_1 < (l0.length : Int) := od_; obtain ⟨ad407, e407, hx407_0, hx407_1⟩ := at_T88 HR0.1 x9_1 p407 q407; cases e407; have n_ := cl2_ HB.1 hx407_0 hx407_1; clear hx407_0 hx407_1; obtain ⟨hx407_0, hx407_1⟩ := n_; replace p407 := eq_true p407; replace q407 := eq_true q407; go_wp2_with (first | ((with_reducible refine gate_dst (N := 6) rfl ?_); refine be_ 6 (cs := #[.int .i64 0, .int .i64 0]) (t := 88) ?_; intro gb408 hg w9 hbox hb; have n_ := bx_ hg hbox hb; clear HB; obtain ⟨HB, BK408, GW408, GE408⟩ := n_; clear hb hbox hg; obtain ⟨_, _, _, _⟩ := ce2_ BK408.1))
       go_roundg k1
       case measure => have := HK1.1; omega
       case rel => exact ⟨(wrap64 (x9_1 + 1)), (rs_), H', ⟨by have := HK1.1; omega⟩, ⟨bg_ GE408.1⟩⟩
     ·
      rw [if_neg c5] at H; exact absurd H (by simp)
    ·
     rw [if_neg c4] at H; exact absurd H (by simp)
   ·
    rw [if_neg c3] at H; have c3b0 : decide (x9_1 < (l0.length : Int)) = false := decide_eq_false c3; clear c3; obtain rfl := Option.some.inj H; go_wp2; go_ret; exact ⟨er_, bb_⟩
def impl_instrKind.l0 : Nat → Int → List (S90) → Int → Int → Option (Int)
 | 0, _, _, _, _ => none
 | k + 1, x1, x7, x8, x9 => if x9 < x8 then (if 0 ≤ x9 then (if x9 < (x7.length : Int) then (if (rd_T90 x7 x9).f0 = x1 then (some (rd_T90 x7 x9).f1) else (impl_instrKind.l0 k x1 x7 x8 (wrap64 (x9 + 1)))) else (none)) else (none)) else (some 0)
def impl_instrKind.f (k : Nat) (l0 : List (S90)) (a1 : Int) : Option (Int) := impl_instrKind.l0 k a1 l0 (l0.length : Int) 0
theorem impl_instrKind.calls (k : Nat) (A0 : Option Addr) (c0 : Nat) (l0 : List (S90)) (a1 : Int) (r : Int) (w : World) (hr0 : Kd.C k90 w A0 l0.length l0) (hc0 : l0.length ≤ c0) (h : impl_instrKind.f k l0 a1 = some r) :
 Calls Try.prog 100 #[.slice A0 l0.length c0, .int .i64 a1] w fun e w' => e = .returned (.int .i64 r) ∧ Below w.heap.size w w' := by
 have hu90 := Try.underlying90; have HR0 := Aside0.mk hr0; have HC0 := Aside0.mk hc0; clear hr0 hc0; have HB := Aside0.mk (Below.refl w.heap.size w); have H : (impl_instrKind.l0 k a1 l0 (l0.length : Int) 0) = some r := h; clear h; have H' := Aside0.mk H; clear H; go_enter Try.func100, Try.ntmps100; go_wp2; go_loopg [9] k (fun kq v9 w' => ∃ (x9_1 : Int), v9 = .int .i64 x9_1 ∧ Aside0 (impl_instrKind.l0 kq a1 l0 (l0.length : Int) x9_1 = some r) ∧ Aside0 (kq ≤ k) ∧ Aside0 (Below w.heap.size w w'))
 case atStart => exact ⟨(0), (rs_), H', ⟨Nat.le_refl _⟩, ⟨bb_⟩⟩
 case round =>
  clear H'; try clear c1
  try clear p2
  obtain ⟨x9_1, rfl, HA, HK1, HB⟩ := hrel
  cases gk with
  | zero => exact absurd HA.1 (by simp [impl_instrKind.l0])
  | succ k1 =>
   have H := HA.1; clear HA; simp only [impl_instrKind.l0] at H
   by_cases c3 : x9_1 < (l0.length : Int)
   ·
    rw [if_pos c3] at H; have c3b0 : decide (x9_1 < (l0.length : Int)) = true := decide_eq_true c3; clear c3
    by_cases c4 : 0 ≤ x9_1
    ·
     rw [if_pos c4] at H; have c4b0 : decide (0 ≤ x9_1) = true := decide_eq_true c4; clear c4
     by_cases c5 : x9_1 < (l0.length : Int)
     ·
      rw [if_pos c5] at H; have c5b0 : decide (x9_1 < (l0.length : Int)) = true := decide_eq_true c5; clear c5
      by_cases c6 : (rd_T90 l0 x9_1).f0 = a1
      ·
       rw [if_pos c6] at H; have c6b0 : ((rd_T90 l0 x9_1).f0 == a1) = true := beq_iff_eq.mpr c6; have c6b1 : ((rd_T90 l0 x9_1).f0 != a1) = false := bne_eq_false_iff_eq.mpr c6; clear c6; obtain rfl := Option.some.inj H; have p409 : 0 ≤ (x9_1 : Int) := od_; have q409 : x9_1 < (l0.length : Int) := od_; obtain ⟨ad409, e409, hx409_0, hx409_1⟩ := at_T90 HR0.1 x9_1 p409 q409; cases e409; have n_ := cl2_ HB.1 hx409_0 hx409_1; clear hx409_0 hx409_1; obtain ⟨hx409_0, hx409_1⟩ := n_; replace p409 := eq_true p409; replace q409 := eq_true q409; go_wp2_with (first | ((with_reducible refine gate_dst (N := 6) rfl ?_); refine be_ 6 (cs := #[.int .i64 0, .int .i64 0]) (t := 90) ?_; intro gb410 hg w7 hbox hb; have n_ := bx_ hg hbox hb; clear HB; obtain ⟨HB, BK410, GW410, GE410⟩ := n_; clear hb hbox hg; obtain ⟨_, _, _, _⟩ := ce2_ BK410.1))
       go_ret; exact ⟨er_, bg_ GE410.1⟩
      ·
       rw [if_neg c6] at H; have c6b0 : ((rd_T90 l0 x9_1).f0 == a1) = false := beq_eq_false_iff_ne.mpr c6; have c6b1 : ((rd_T90 l0 x9_1).f0 != a1) = true := bne_iff_ne.mpr c6; have H' := Aside0.mk H; clear H; have p409 : 0 ≤ (x9_1 : Int) := od_; have q409 : x9_1 < (l0.length : Int) := od_; obtain ⟨ad409, e409, hx409_0, hx409_1⟩ := at_T90 HR0.1 x9_1 p409 q409; cases e409; have n_ := cl2_ HB.1 hx409_0 hx409_1; clear hx409_0 hx409_1; obtain ⟨hx409_0, hx409_1⟩ := n_; replace p409 := eq_true p409; replace q409 := eq_true q409; go_wp2_with (first | ((with_reducible refine gate_dst (N := 6) rfl ?_); refine be_ 6 (cs := #[.int .i64 0, .int .i64 0]) (t := 90) ?_; intro gb410 hg w9 hbox hb; have n_ := bx_ hg hbox hb; clear HB; obtain ⟨HB, BK410, GW410, GE410⟩ := n_; clear hb hbox hg; obtain ⟨_, _, _, _⟩ := ce2_ BK410.1))
       go_roundg k1
       case measure => have := HK1.1; omega
       case rel => exact ⟨(wrap64 (x9_1 + 1)), (rs_), H', ⟨by have := HK1.1; omega⟩, ⟨bg_ GE410.1⟩⟩
     ·
      rw [if_neg c5] at H; exact absurd H (by simp)
    ·
     rw [if_neg c4] at H; exact absurd H (by simp)
   ·
    rw [if_neg c3] at H; have c3b0 : decide (x9_1 < (l0.length : Int)) = false := decide_eq_false c3; clear c3; obtain rfl := Option.some.inj H; go_wp2; go_ret; exact ⟨er_, bb_⟩
def impl_balsSum.l0 : Nat → Int → Int → List (S93) → Int → Int → Option (Int)
 | 0, _, _, _, _, _ => none
 | k + 1, x1, x5, x8, x9, x10 => if x10 < x9 then (if 0 ≤ x10 then (if x10 < (x8.length : Int) then (if (rd_T93 x8 x10).f1 = x1 then (impl_balsSum.l0 k x1 (wrap64 (x5 + (rd_T93 x8 x10).f2)) x8 x9 (wrap64 (x10 + 1))) else (impl_balsSum.l0 k x1 x5 x8 x9 (wrap64 (x10 + 1)))) else (none)) else (none)) else (some x5)
def impl_balsSum.f (k : Nat) (l0 : List (S93)) (a1 : Int) : Option (Int) := impl_balsSum.l0 k a1 0 l0 (l0.length : Int) 0
theorem impl_balsSum.calls (k : Nat) (A0 : Option Addr) (c0 : Nat) (l0 : List (S93)) (a1 : Int) (r : Int) (w : World) (hr0 : Kd.C k93 w A0 l0.length l0) (hc0 : l0.length ≤ c0) (h : impl_balsSum.f k l0 a1 = some r) :
 Calls Try.prog 101 #[.slice A0 l0.length c0, .int .i64 a1] w fun e w' => e = .returned (.int .i64 r) ∧ Below w.heap.size w w' := by
 have hu93 := Try.underlying93; have HR0 := Aside0.mk hr0; have HC0 := Aside0.mk hc0; clear hr0 hc0; have HB := Aside0.mk (Below.refl w.heap.size w); have H : (impl_balsSum.l0 k a1 0 l0 (l0.length : Int) 0) = some r := h; clear h; have H' := Aside0.mk H; clear H; go_enter Try.func101, Try.ntmps101; go_wp2; go_loopg [5, 10] k (fun kq v5 v10 w' => ∃ (x5_1 : Int) (x10_1 : Int), v5 = .int .i64 x5_1 ∧ v10 = .int .i64 x10_1 ∧ Aside0 (impl_balsSum.l0 kq a1 x5_1 l0 (l0.length : Int) x10_1 = some r) ∧ Aside0 (kq ≤ k) ∧ Aside0 (Below w.heap.size w w'))
 case atStart => exact ⟨(0), (0), (rs_), (rs_), H', ⟨Nat.le_refl _⟩, ⟨bb_⟩⟩
 case round =>
  clear H'; try clear c1
  try clear p2
  obtain ⟨x5_1, x10_1, rfl, rfl, HA, HK1, HB⟩ := hrel
  cases gk with
  | zero => exact absurd HA.1 (by simp [impl_balsSum.l0])
  | succ k1 =>
   have H := HA.1; clear HA; simp only [impl_balsSum.l0] at H
   by_cases c3 : x10_1 < (l0.length : Int)
   ·
    rw [if_pos c3] at H; have c3b0 : decide (x10_1 < (l0.length : Int)) = true := decide_eq_true c3; clear c3
    by_cases c4 : 0 ≤ x10_1
    ·
     rw [if_pos c4] at H; have c4b0 : decide (0 ≤ x10_1) = true := decide_eq_true c4; clear c4
     by_cases c5 : x10_1 < (l0.length : Int)
     ·
      rw [if_pos c5] at H; have c5b0 : decide (x10_1 < (l0.length : Int)) = true := decide_eq_true c5; clear c5
      by_cases c6 : (rd_T93 l0 x10_1).f1 = a1
      ·
       rw [if_pos c6] at H; have c6b0 : ((rd_T93 l0 x10_1).f1 == a1) = true := beq_iff_eq.mpr c6; have c6b1 : ((rd_T93 l0 x10_1).f1 != a1) = false := bne_eq_false_iff_eq.mpr c6; clear c6; have H' := Aside0.mk H; clear H; have p411 : 0 ≤ (x10_1 : Int) := od_; have q411 : x10_1 < (l0.length : Int) := od_; obtain ⟨ad411, e411, hx411_0, hx411_1, hx411_2⟩ := at_T93 HR0.1 x10_1 p411 q411; cases e411; have n_ := cl3_ HB.1 hx411_0 hx411_1 hx411_2; clear hx411_0 hx411_1 hx411_2; obtain ⟨hx411_0, hx411_1, hx411_2⟩ := n_; replace p411 := eq_true p411; replace q411 := eq_true q411; go_wp2_with (first | ((with_reducible refine gate_dst (N := 7) rfl ?_); refine be_ 7 (cs := #[.int .i64 0, .int .i64 0, .int .i64 0]) (t := 93) ?_; intro gb412 hg w7 hbox hb; have n_ := bx_ hg hbox hb; clear HB; obtain ⟨HB, BK412, GW412, GE412⟩ := n_; clear hb hbox hg; obtain ⟨_, _, _, _, _, _⟩ := ce3_ BK412.1))
       go_roundg k1
       case measure => have := HK1.1; omega
       case rel => exact ⟨(wrap64 (x5_1 + (rd_T93 l0 x10_1).f2)), (wrap64 (x10_1 + 1)), (rs_), (rs_), H', ⟨by have := HK1.1; omega⟩, ⟨bg_ GE412.1⟩⟩
      ·
       rw [if_neg c6] at H; have c6b0 : ((rd_T93 l0 x10_1).f1 == a1) = false := beq_eq_false_iff_ne.mpr c6; have c6b1 : ((rd_T93 l0 x10_1).f1 != a1) = true := bne_iff_ne.mpr c6; have H' := Aside0.mk H; clear H; have p411 : 0 ≤ (x10_1 : Int) := od_; have q411 : x10_1 < (l0.length : Int) := od_; obtain ⟨ad411, e411, hx411_0, hx411_1, hx411_2⟩ := at_T93 HR0.1 x10_1 p411 q411; cases e411; have n_ := cl3_ HB.1 hx411_0 hx411_1 hx411_2; clear hx411_0 hx411_1 hx411_2; obtain ⟨hx411_0, hx411_1, hx411_2⟩ := n_; replace p411 := eq_true p411; replace q411 := eq_true q411; go_wp2_with (first | ((with_reducible refine gate_dst (N := 7) rfl ?_); refine be_ 7 (cs := #[.int .i64 0, .int .i64 0, .int .i64 0]) (t := 93) ?_; intro gb412 hg w9 hbox hb; have n_ := bx_ hg hbox hb; clear HB; obtain ⟨HB, BK412, GW412, GE412⟩ := n_; clear hb hbox hg; obtain ⟨_, _, _, _, _, _⟩ := ce3_ BK412.1))
       go_roundg k1
       case measure => have := HK1.1; omega
       case rel => exact ⟨(x5_1), (wrap64 (x10_1 + 1)), (rs_), (rs_), H', ⟨by have := HK1.1; omega⟩, ⟨bg_ GE412.1⟩⟩
     ·
      rw [if_neg c5] at H; exact absurd H (by simp)
    ·
     rw [if_neg c4] at H; exact absurd H (by simp)
   ·
    rw [if_neg c3] at H; have c3b0 : decide (x10_1 < (l0.length : Int)) = false := decide_eq_false c3; clear c3; obtain rfl := Option.some.inj H; go_wp2; go_ret; exact ⟨er_, bb_⟩
def impl_balsRight.l0 : Nat → List (S93) → Int → Int → List (S88) → List (S90) → List (S93) → List (S96) → List (S50) → Int → Option (Bool)
 | 0, _, _, _, _, _, _, _, _, _ => none
 | k + 1, x7, x8, x9, x414000, x414001, x414002, x414003, x414004, x414005 => if x9 < x8 then (if 0 ≤ x9 then (if x9 < (x7.length : Int) then ((impl_accountKind.f k x414000 (rd_T93 x7 x9).f0).bind fun t416 => (if t416 = 0 then (some false) else ((impl_instrKind.f k x414001 (rd_T93 x7 x9).f1).bind fun t417 => (if t417 = 0 then (some false) else (if t416 = 1 then (if (rd_T93 x7 x9).f2 < 0 then (some false) else ((impl_balsSum.f k x414002 (rd_T93 x7 x9).f1).bind fun t418 => (if t418 = 0 then (impl_balsRight.l0 k x7 x8 (wrap64 (x9 + 1)) x414000 x414001 x414002 x414003 x414004 x414005) else (some false)))) else ((impl_balsSum.f k x414002 (rd_T93 x7 x9).f1).bind fun t419 => (if t419 = 0 then (impl_balsRight.l0 k x7 x8 (wrap64 (x9 + 1)) x414000 x414001 x414002 x414003 x414004 x414005) else (some false)))))))) else (none)) else (none)) else (some true)
def impl_balsRight.f (k : Nat) (l0_0 : List (S88)) (l0_1 : List (S90)) (l0_2 : List (S93)) (l0_3 : List (S96)) (l0_4 : List (S50)) (a0_5 : Int) : Option (Bool) := impl_balsRight.l0 k l0_2 (l0_2.length : Int) 0 l0_0 l0_1 l0_2 l0_3 l0_4 a0_5
theorem impl_balsRight.calls (k : Nat) (A0_0 : Option Addr) (c0_0 : Nat) (l0_0 : List (S88)) (A0_1 : Option Addr) (c0_1 : Nat) (l0_1 : List (S90)) (A0_2 : Option Addr) (c0_2 : Nat) (l0_2 : List (S93)) (A0_3 : Option Addr) (c0_3 : Nat) (l0_3 : List (S96)) (A0_4 : Option Addr) (c0_4 : Nat) (l0_4 : List (S50)) (a0_5 : Int) (r : Bool) (w : World) (hr0_0 : Kd.C k88 w A0_0 l0_0.length l0_0) (hc0_0 : l0_0.length ≤ c0_0) (hr0_1 : Kd.C k90 w A0_1 l0_1.length l0_1) (hc0_1 : l0_1.length ≤ c0_1) (hr0_2 : Kd.C k93 w A0_2 l0_2.length l0_2) (hc0_2 : l0_2.length ≤ c0_2) (hr0_3 : Kd.C k96 w A0_3 l0_3.length l0_3) (hc0_3 : l0_3.length ≤ c0_3) (hr0_4 : Kd.C k50 w A0_4 l0_4.length l0_4) (hc0_4 : l0_4.length ≤ c0_4) (h : impl_balsRight.f k l0_0 l0_1 l0_2 l0_3 l0_4 a0_5 = some r) :
 Calls Try.prog 70 #[.agg #[.slice A0_0 l0_0.length c0_0, .slice A0_1 l0_1.length c0_1, .slice A0_2 l0_2.length c0_2, .slice A0_3 l0_3.length c0_3, .slice A0_4 l0_4.length c0_4, .int .i64 a0_5]] w fun e w' => e = .returned (.bool r) ∧ Below w.heap.size w w' := by
 have hu34 := Try.underlying34; have hu93 := Try.underlying93; have HR0_0 := Aside0.mk hr0_0; have HC0_0 := Aside0.mk hc0_0; clear hr0_0 hc0_0; have HR0_1 := Aside0.mk hr0_1; have HC0_1 := Aside0.mk hc0_1; clear hr0_1 hc0_1; have HR0_2 := Aside0.mk hr0_2; have HC0_2 := Aside0.mk hc0_2; clear hr0_2 hc0_2; have HR0_3 := Aside0.mk hr0_3; have HC0_3 := Aside0.mk hc0_3; clear hr0_3 hc0_3; have HR0_4 := Aside0.mk hr0_4; have HC0_4 := Aside0.mk hc0_4; clear hr0_4 hc0_4; have HB := Aside0.mk (Below.refl w.heap.size w); have H : (impl_balsRight.l0 k l0_2 (l0_2.length : Int) 0 l0_0 l0_1 l0_2 l0_3 l0_4 a0_5) = some r := h; clear h; have H' := Aside0.mk H; clear H; go_enter Try.func70, Try.ntmps70; go_wp2_with (first | ((with_reducible refine gate_dst (N := 1) rfl ?_); refine be_ 1 (cs := #[.slice A0_0 l0_0.length c0_0, .slice A0_1 l0_1.length c0_1, .slice A0_2 l0_2.length c0_2, .slice A0_3 l0_3.length c0_3, .slice A0_4 l0_4.length c0_4, .int .i64 a0_5]) (t := 34) ?_; intro gb413 hg w2 hbox hb; have n_ := bx_ hg hbox hb; clear HB; obtain ⟨HB, BK413, GW413, GE413⟩ := n_; clear hb hbox hg; obtain ⟨_, _, _, _, _, _, _, _, _, _, _, _⟩ := ce6_ BK413.1))
 go_loopg [9] k (fun kq v9 w' => ∃ (x9_1 : Int), v9 = .int .i64 x9_1 ∧ Aside0 (impl_balsRight.l0 kq l0_2 (l0_2.length : Int) x9_1 l0_0 l0_1 l0_2 l0_3 l0_4 a0_5 = some r) ∧ Aside0 (kq ≤ k) ∧ Aside0 (w'.heap[gb413]? = some (.cells #[(.slice A0_0 l0_0.length c0_0), (.slice A0_1 l0_1.length c0_1), (.slice A0_2 l0_2.length c0_2), (.slice A0_3 l0_3.length c0_3), (.slice A0_4 l0_4.length c0_4), .int .i64 a0_5] 34 (0, 0))) ∧ Aside0 (Below w.heap.size w w'))
 case atStart => exact ⟨(0), (rs_), H', ⟨Nat.le_refl _⟩, ⟨pb_ BK413.1⟩, ⟨bg_ GE413.1⟩⟩
 case round =>
  clear H'; try clear p2
  obtain ⟨x9_1, rfl, HA, HK1, BK413, HB⟩ := hrel
  cases gk with
  | zero => exact absurd HA.1 (by simp [impl_balsRight.l0])
  | succ k1 =>
   have H := HA.1; clear HA; simp only [impl_balsRight.l0] at H
   by_cases c4 : x9_1 < (l0_2.length : Int)
   ·
    rw [if_pos c4] at H; have c4b0 : decide (x9_1 < (l0_2.length : Int)) = true := decide_eq_true c4; clear c4
    by_cases c5 : 0 ≤ x9_1
    ·
     rw [if_pos c5] at H; have c5b0 : decide (0 ≤ x9_1) = true := decide_eq_true c5; clear c5
     by_cases c6 : x9_1 < (l0_2.length : Int)
     ·
      rw [if_pos c6] at H; have c6b0 : decide (x9_1 < (l0_2.length : Int)) = true := decide_eq_true c6; clear c6; replace H := Option.bind_eq_some_iff.mp H; obtain ⟨t416, A70, H⟩ := H; have A7 := Aside0.mk A70; clear A70
      by_cases c8 : t416 = 0
      ·
       rw [if_pos c8] at H; have c8b0 : (t416 == 0) = true := beq_iff_eq.mpr c8; have c8b1 : (t416 != 0) = false := bne_eq_false_iff_eq.mpr c8; clear c8; obtain rfl := Option.some.inj H; have p414 : 0 ≤ (x9_1 : Int) := od_; have q414 : x9_1 < (l0_2.length : Int) := od_; obtain ⟨ad414, e414, hx414_0, hx414_1, hx414_2⟩ := at_T93 HR0_2.1 x9_1 p414 q414; cases e414; have n_ := cl3_ HB.1 hx414_0 hx414_1 hx414_2; clear hx414_0 hx414_1 hx414_2; obtain ⟨hx414_0, hx414_1, hx414_2⟩ := n_; replace p414 := eq_true p414; replace q414 := eq_true q414
       go_wp2_with (first | ((with_reducible refine gate_dst (N := 4) rfl ?_); refine be_ 4 (cs := #[.int .i64 0, .int .i64 0, .int .i64 0]) (t := 93) ?_; intro gb415 hg w9 hbox hb; have n_ := bz_ hg hbox hb BK413.1 GE413.1; clear BK413 HB; obtain ⟨BK413, HB, BK415, GW415, GE415, NB413_415, NB415_413⟩ := n_; clear hb hbox hg; have hnb10 := NB415_413.1; have hnc10 := NB413_415.1; obtain ⟨_, _, _, _, _, _⟩ := ce3_ BK415.1; obtain ⟨_, _, _, _, _, _, _, _, _, _, _, _⟩ := ce6_ BK413.1) | ((with_reducible refine gate_callee (f := 99) rfl ?_); refine goesL_ (some 17) rfl rfl Try.func99 kr_ rfl #[.slice A0_0 l0_0.length c0_0, .int .i64 (rd_T93 l0_2 x9_1).f0] rfl (bc_) ?_; (with_reducible refine (impl_accountKind.calls k1 _ _ l0_0 (rd_T93 l0_2 x9_1).f0 t416 _ ?side1 ?side2 A7.1).mono ?_); (case side1 => exact Kd.C_below HR0_0.1 (bh_ GE413.1 GE415.1)); (case side2 => exact HC0_0.1); rintro e w13 ⟨rfl, hb⟩; refine ⟨_, rfl, ?_⟩; have n_ := as3_ (blk_below (g := gb413) (o := .cells #[.slice A0_0 l0_0.length c0_0, .slice A0_1 l0_1.length c0_1, .slice (some ad414) l0_2.length c0_2, .slice A0_3 l0_3.length c0_3, .slice A0_4 l0_4.length c0_4, .int .i64 a0_5] 34 (0, 0)) (by refine pf_ NB413_415.1 ?_; refine pf_ NB413_415.1 ?_; refine pf_ NB413_415.1 ?_; exact pb_ BK413.1) hb) (blk_below (g := gb415) (o := .cells #[.int .i64 (rd_T93 l0_2 x9_1).f0, .int .i64 (rd_T93 l0_2 x9_1).f1, .int .i64 (rd_T93 l0_2 x9_1).f2] 93 (0, 0)) (by refine pc_ (blk_put (cs := #[.int .i64 (rd_T93 l0_2 x9_1).f0, .int .i64 (rd_T93 l0_2 x9_1).f1, .int .i64 0]) ?_ 2 _ rfl); refine pc_ (blk_put (cs := #[.int .i64 (rd_T93 l0_2 x9_1).f0, .int .i64 0, .int .i64 0]) ?_ 1 _ rfl); refine pc_ (blk_put (cs := #[.int .i64 0, .int .i64 0, .int .i64 0]) ?_ 0 _ rfl); exact pb_ BK415.1) hb) (below_step (bh_ GE413.1 GE415.1) hb); clear BK413 BK415 HB; obtain ⟨BK413, BK415, HB⟩ := n_; (try clear hb)))
       go_ret; exact ⟨er_, bh_ GE413.1 GE415.1⟩
      ·
       rw [if_neg c8] at H; have c8b0 : (t416 == 0) = false := beq_eq_false_iff_ne.mpr c8; have c8b1 : (t416 != 0) = true := bne_iff_ne.mpr c8; replace H := Option.bind_eq_some_iff.mp H; obtain ⟨t417, A140, H⟩ := H; have A14 := Aside0.mk A140; clear A140
       by_cases c15 : t417 = 0
       ·
        rw [if_pos c15] at H; have c15b0 : (t417 == 0) = true := beq_iff_eq.mpr c15; have c15b1 : (t417 != 0) = false := bne_eq_false_iff_eq.mpr c15; clear c15; obtain rfl := Option.some.inj H; have p414 : 0 ≤ (x9_1 : Int) := od_; have q414 : x9_1 < (l0_2.length : Int) := od_; obtain ⟨ad414, e414, hx414_0, hx414_1, hx414_2⟩ := at_T93 HR0_2.1 x9_1 p414 q414; cases e414; have n_ := cl3_ HB.1 hx414_0 hx414_1 hx414_2; clear hx414_0 hx414_1 hx414_2; obtain ⟨hx414_0, hx414_1, hx414_2⟩ := n_; replace p414 := eq_true p414; replace q414 := eq_true q414
        go_wp2_with (first | ((with_reducible refine gate_dst (N := 4) rfl ?_); refine be_ 4 (cs := #[.int .i64 0, .int .i64 0, .int .i64 0]) (t := 93) ?_; intro gb415 hg w16 hbox hb; have n_ := bz_ hg hbox hb BK413.1 GE413.1; clear BK413 HB; obtain ⟨BK413, HB, BK415, GW415, GE415, NB413_415, NB415_413⟩ := n_; clear hb hbox hg; have hnb17 := NB415_413.1; have hnc17 := NB413_415.1; obtain ⟨_, _, _, _, _, _⟩ := ce3_ BK415.1; obtain ⟨_, _, _, _, _, _, _, _, _, _, _, _⟩ := ce6_ BK413.1) | ((with_reducible refine gate_callee (f := 99) rfl ?_); refine goesL_ (some 17) rfl rfl Try.func99 kr_ rfl #[.slice A0_0 l0_0.length c0_0, .int .i64 (rd_T93 l0_2 x9_1).f0] rfl (bc_) ?_; (with_reducible refine (impl_accountKind.calls k1 _ _ l0_0 (rd_T93 l0_2 x9_1).f0 t416 _ ?side1 ?side2 A7.1).mono ?_); (case side1 => exact Kd.C_below HR0_0.1 (bh_ GE413.1 GE415.1)); (case side2 => exact HC0_0.1); rintro e w20 ⟨rfl, hb⟩; refine ⟨_, rfl, ?_⟩; have n_ := as3_ (blk_below (g := gb413) (o := .cells #[.slice A0_0 l0_0.length c0_0, .slice A0_1 l0_1.length c0_1, .slice (some ad414) l0_2.length c0_2, .slice A0_3 l0_3.length c0_3, .slice A0_4 l0_4.length c0_4, .int .i64 a0_5] 34 (0, 0)) (by refine pf_ NB413_415.1 ?_; refine pf_ NB413_415.1 ?_; refine pf_ NB413_415.1 ?_; exact pb_ BK413.1) hb) (blk_below (g := gb415) (o := .cells #[.int .i64 (rd_T93 l0_2 x9_1).f0, .int .i64 (rd_T93 l0_2 x9_1).f1, .int .i64 (rd_T93 l0_2 x9_1).f2] 93 (0, 0)) (by refine pc_ (blk_put (cs := #[.int .i64 (rd_T93 l0_2 x9_1).f0, .int .i64 (rd_T93 l0_2 x9_1).f1, .int .i64 0]) ?_ 2 _ rfl); refine pc_ (blk_put (cs := #[.int .i64 (rd_T93 l0_2 x9_1).f0, .int .i64 0, .int .i64 0]) ?_ 1 _ rfl); refine pc_ (blk_put (cs := #[.int .i64 0, .int .i64 0, .int .i64 0]) ?_ 0 _ rfl); exact pb_ BK415.1) hb) (below_step (bh_ GE413.1 GE415.1) hb); clear BK413 BK415 HB; obtain ⟨BK413, BK415, HB⟩ := n_; (try clear hb); obtain ⟨_, _, _, _, _, _, _, _, _, _, _, _⟩ := ce6_ BK413.1; obtain ⟨_, _, _, _, _, _⟩ := ce3_ BK415.1) | (go_at_call 100; (with_reducible refine (impl_instrKind.calls k1 _ _ l0_1 (rd_T93 l0_2 x9_1).f1 t417 _ ?side1 ?side2 A14.1).mono ?_); (case side1 => exact cc_ (Kd.C_below HR0_1.1 HB.1)); (case side2 => exact HC0_1.1); rintro e w23 ⟨rfl, hb⟩; have n_ := as3_ (bl_ BK413.1 hb) (bl_ BK415.1 hb) (below_step (bh_ GE413.1 GE415.1) hb); clear BK413 BK415 HB; obtain ⟨BK413, BK415, HB⟩ := n_; (try clear hb)))
        go_ret; exact ⟨er_, bh_ GE413.1 GE415.1⟩
       ·
        rw [if_neg c15] at H; have c15b0 : (t417 == 0) = false := beq_eq_false_iff_ne.mpr c15; have c15b1 : (t417 != 0) = true := bne_iff_ne.mpr c15
        by_cases c24 : t416 = 1
        ·
         rw [if_pos c24] at H; have c24b0 : (t416 == 1) = true := beq_iff_eq.mpr c24; have c24b1 : (t416 != 1) = false := bne_eq_false_iff_eq.mpr c24; clear c24
         by_cases c25 : (rd_T93 l0_2 x9_1).f2 < 0
         ·
          rw [if_pos c25] at H; have c25b0 : decide ((rd_T93 l0_2 x9_1).f2 < 0) = true := decide_eq_true c25; clear c25; obtain rfl := Option.some.inj H; have p414 : 0 ≤ (x9_1 : Int) := od_; have q414 : x9_1 < (l0_2.length : Int) := od_; obtain ⟨ad414, e414, hx414_0, hx414_1, hx414_2⟩ := at_T93 HR0_2.1 x9_1 p414 q414; cases e414; have n_ := cl3_ HB.1 hx414_0 hx414_1 hx414_2; clear hx414_0 hx414_1 hx414_2; obtain ⟨hx414_0, hx414_1, hx414_2⟩ := n_; replace p414 := eq_true p414; replace q414 := eq_true q414
          go_wp2_with (first | ((with_reducible refine gate_dst (N := 4) rfl ?_); refine be_ 4 (cs := #[.int .i64 0, .int .i64 0, .int .i64 0]) (t := 93) ?_; intro gb415 hg w26 hbox hb; have n_ := bz_ hg hbox hb BK413.1 GE413.1; clear BK413 HB; obtain ⟨BK413, HB, BK415, GW415, GE415, NB413_415, NB415_413⟩ := n_; clear hb hbox hg; have hnb27 := NB415_413.1; have hnc27 := NB413_415.1; obtain ⟨_, _, _, _, _, _⟩ := ce3_ BK415.1; obtain ⟨_, _, _, _, _, _, _, _, _, _, _, _⟩ := ce6_ BK413.1) | ((with_reducible refine gate_callee (f := 99) rfl ?_); refine goesL_ (some 17) rfl rfl Try.func99 kr_ rfl #[.slice A0_0 l0_0.length c0_0, .int .i64 (rd_T93 l0_2 x9_1).f0] rfl (bc_) ?_; (with_reducible refine (impl_accountKind.calls k1 _ _ l0_0 (rd_T93 l0_2 x9_1).f0 t416 _ ?side1 ?side2 A7.1).mono ?_); (case side1 => exact Kd.C_below HR0_0.1 (bh_ GE413.1 GE415.1)); (case side2 => exact HC0_0.1); rintro e w30 ⟨rfl, hb⟩; refine ⟨_, rfl, ?_⟩; have n_ := as3_ (blk_below (g := gb413) (o := .cells #[.slice A0_0 l0_0.length c0_0, .slice A0_1 l0_1.length c0_1, .slice (some ad414) l0_2.length c0_2, .slice A0_3 l0_3.length c0_3, .slice A0_4 l0_4.length c0_4, .int .i64 a0_5] 34 (0, 0)) (by refine pf_ NB413_415.1 ?_; refine pf_ NB413_415.1 ?_; refine pf_ NB413_415.1 ?_; exact pb_ BK413.1) hb) (blk_below (g := gb415) (o := .cells #[.int .i64 (rd_T93 l0_2 x9_1).f0, .int .i64 (rd_T93 l0_2 x9_1).f1, .int .i64 (rd_T93 l0_2 x9_1).f2] 93 (0, 0)) (by refine pc_ (blk_put (cs := #[.int .i64 (rd_T93 l0_2 x9_1).f0, .int .i64 (rd_T93 l0_2 x9_1).f1, .int .i64 0]) ?_ 2 _ rfl); refine pc_ (blk_put (cs := #[.int .i64 (rd_T93 l0_2 x9_1).f0, .int .i64 0, .int .i64 0]) ?_ 1 _ rfl); refine pc_ (blk_put (cs := #[.int .i64 0, .int .i64 0, .int .i64 0]) ?_ 0 _ rfl); exact pb_ BK415.1) hb) (below_step (bh_ GE413.1 GE415.1) hb); clear BK413 BK415 HB; obtain ⟨BK413, BK415, HB⟩ := n_; (try clear hb); obtain ⟨_, _, _, _, _, _, _, _, _, _, _, _⟩ := ce6_ BK413.1; obtain ⟨_, _, _, _, _, _⟩ := ce3_ BK415.1) | (go_at_call 100; (with_reducible refine (impl_instrKind.calls k1 _ _ l0_1 (rd_T93 l0_2 x9_1).f1 t417 _ ?side1 ?side2 A14.1).mono ?_); (case side1 => exact cc_ (Kd.C_below HR0_1.1 HB.1)); (case side2 => exact HC0_1.1); rintro e w33 ⟨rfl, hb⟩; have n_ := as3_ (bl_ BK413.1 hb) (bl_ BK415.1 hb) (below_step (bh_ GE413.1 GE415.1) hb); clear BK413 BK415 HB; obtain ⟨BK413, BK415, HB⟩ := n_; (try clear hb); obtain ⟨_, _, _, _, _, _⟩ := ce3_ BK415.1))
          go_ret; exact ⟨er_, bh_ GE413.1 GE415.1⟩
         ·
          rw [if_neg c25] at H; have c25b0 : decide ((rd_T93 l0_2 x9_1).f2 < 0) = false := decide_eq_false c25; clear c25; replace H := Option.bind_eq_some_iff.mp H; obtain ⟨t418, A350, H⟩ := H; have A35 := Aside0.mk A350; clear A350
          by_cases c36 : t418 = 0
          ·
           rw [if_pos c36] at H; have c36b0 : (t418 == 0) = true := beq_iff_eq.mpr c36; have c36b1 : (t418 != 0) = false := bne_eq_false_iff_eq.mpr c36; clear c36; have H' := Aside0.mk H; clear H; have p414 : 0 ≤ (x9_1 : Int) := od_; have q414 : x9_1 < (l0_2.length : Int) := od_; obtain ⟨ad414, e414, hx414_0, hx414_1, hx414_2⟩ := at_T93 HR0_2.1 x9_1 p414 q414; cases e414; have n_ := cl3_ HB.1 hx414_0 hx414_1 hx414_2; clear hx414_0 hx414_1 hx414_2; obtain ⟨hx414_0, hx414_1, hx414_2⟩ := n_; replace p414 := eq_true p414; replace q414 := eq_true q414
           go_wp2_with (first | ((with_reducible refine gate_dst (N := 4) rfl ?_); refine be_ 4 (cs := #[.int .i64 0, .int .i64 0, .int .i64 0]) (t := 93) ?_; intro gb415 hg w37 hbox hb; have n_ := bz_ hg hbox hb BK413.1 GE413.1; clear BK413 HB; obtain ⟨BK413, HB, BK415, GW415, GE415, NB413_415, NB415_413⟩ := n_; clear hb hbox hg; have hnb38 := NB415_413.1; have hnc38 := NB413_415.1; obtain ⟨_, _, _, _, _, _⟩ := ce3_ BK415.1; obtain ⟨_, _, _, _, _, _, _, _, _, _, _, _⟩ := ce6_ BK413.1) | ((with_reducible refine gate_callee (f := 99) rfl ?_); refine goesL_ (some 17) rfl rfl Try.func99 kr_ rfl #[.slice A0_0 l0_0.length c0_0, .int .i64 (rd_T93 l0_2 x9_1).f0] rfl (bc_) ?_; (with_reducible refine (impl_accountKind.calls k1 _ _ l0_0 (rd_T93 l0_2 x9_1).f0 t416 _ ?side1 ?side2 A7.1).mono ?_); (case side1 => exact Kd.C_below HR0_0.1 (bh_ GE413.1 GE415.1)); (case side2 => exact HC0_0.1); rintro e w41 ⟨rfl, hb⟩; refine ⟨_, rfl, ?_⟩; have n_ := as3_ (blk_below (g := gb413) (o := .cells #[.slice A0_0 l0_0.length c0_0, .slice A0_1 l0_1.length c0_1, .slice (some ad414) l0_2.length c0_2, .slice A0_3 l0_3.length c0_3, .slice A0_4 l0_4.length c0_4, .int .i64 a0_5] 34 (0, 0)) (by refine pf_ NB413_415.1 ?_; refine pf_ NB413_415.1 ?_; refine pf_ NB413_415.1 ?_; exact pb_ BK413.1) hb) (blk_below (g := gb415) (o := .cells #[.int .i64 (rd_T93 l0_2 x9_1).f0, .int .i64 (rd_T93 l0_2 x9_1).f1, .int .i64 (rd_T93 l0_2 x9_1).f2] 93 (0, 0)) (by refine pc_ (blk_put (cs := #[.int .i64 (rd_T93 l0_2 x9_1).f0, .int .i64 (rd_T93 l0_2 x9_1).f1, .int .i64 0]) ?_ 2 _ rfl); refine pc_ (blk_put (cs := #[.int .i64 (rd_T93 l0_2 x9_1).f0, .int .i64 0, .int .i64 0]) ?_ 1 _ rfl); refine pc_ (blk_put (cs := #[.int .i64 0, .int .i64 0, .int .i64 0]) ?_ 0 _ rfl); exact pb_ BK415.1) hb) (below_step (bh_ GE413.1 GE415.1) hb); clear BK413 BK415 HB; obtain ⟨BK413, BK415, HB⟩ := n_; (try clear hb); obtain ⟨_, _, _, _, _, _, _, _, _, _, _, _⟩ := ce6_ BK413.1; obtain ⟨_, _, _, _, _, _⟩ := ce3_ BK415.1) | (go_at_call 100; (with_reducible refine (impl_instrKind.calls k1 _ _ l0_1 (rd_T93 l0_2 x9_1).f1 t417 _ ?side1 ?side2 A14.1).mono ?_); (case side1 => exact cc_ (Kd.C_below HR0_1.1 HB.1)); (case side2 => exact HC0_1.1); rintro e w44 ⟨rfl, hb⟩; have n_ := as3_ (bl_ BK413.1 hb) (bl_ BK415.1 hb) (below_step (bh_ GE413.1 GE415.1) hb); clear BK413 BK415 HB; obtain ⟨BK413, BK415, HB⟩ := n_; (try clear hb); obtain ⟨_, _, _, _, _, _⟩ := ce3_ BK415.1; obtain ⟨_, _, _, _, _, _, _, _, _, _, _, _⟩ := ce6_ BK413.1) | (go_at_call 101; (with_reducible refine (impl_balsSum.calls k1 _ _ l0_2 (rd_T93 l0_2 x9_1).f1 t418 _ ?side1 ?side2 A35.1).mono ?_); (case side1 => exact cc_ (Kd.C_below HR0_2.1 HB.1)); (case side2 => exact HC0_2.1); rintro e w47 ⟨rfl, hb⟩; have n_ := as3_ (bl_ BK413.1 hb) (bl_ BK415.1 hb) (below_step (bh_ GE413.1 GE415.1) hb); clear BK413 BK415 HB; obtain ⟨BK413, BK415, HB⟩ := n_; (try clear hb)))
           go_roundg k1
           case measure => have := HK1.1; omega
           case rel => exact ⟨(wrap64 (x9_1 + 1)), (rs_), H', ⟨by have := HK1.1; omega⟩, ⟨pb_ BK413.1⟩, ⟨bh_ GE413.1 GE415.1⟩⟩
          ·
           rw [if_neg c36] at H; have c36b0 : (t418 == 0) = false := beq_eq_false_iff_ne.mpr c36; have c36b1 : (t418 != 0) = true := bne_iff_ne.mpr c36; obtain rfl := Option.some.inj H; have p414 : 0 ≤ (x9_1 : Int) := od_; have q414 : x9_1 < (l0_2.length : Int) := od_; obtain ⟨ad414, e414, hx414_0, hx414_1, hx414_2⟩ := at_T93 HR0_2.1 x9_1 p414 q414; cases e414; have n_ := cl3_ HB.1 hx414_0 hx414_1 hx414_2; clear hx414_0 hx414_1 hx414_2; obtain ⟨hx414_0, hx414_1, hx414_2⟩ := n_; replace p414 := eq_true p414; replace q414 := eq_true q414
           go_wp2_with (first | ((with_reducible refine gate_dst (N := 4) rfl ?_); refine be_ 4 (cs := #[.int .i64 0, .int .i64 0, .int .i64 0]) (t := 93) ?_; intro gb415 hg w48 hbox hb; have n_ := bz_ hg hbox hb BK413.1 GE413.1; clear BK413 HB; obtain ⟨BK413, HB, BK415, GW415, GE415, NB413_415, NB415_413⟩ := n_; clear hb hbox hg; have hnb49 := NB415_413.1; have hnc49 := NB413_415.1; obtain ⟨_, _, _, _, _, _⟩ := ce3_ BK415.1; obtain ⟨_, _, _, _, _, _, _, _, _, _, _, _⟩ := ce6_ BK413.1) | ((with_reducible refine gate_callee (f := 99) rfl ?_); refine goesL_ (some 17) rfl rfl Try.func99 kr_ rfl #[.slice A0_0 l0_0.length c0_0, .int .i64 (rd_T93 l0_2 x9_1).f0] rfl (bc_) ?_; (with_reducible refine (impl_accountKind.calls k1 _ _ l0_0 (rd_T93 l0_2 x9_1).f0 t416 _ ?side1 ?side2 A7.1).mono ?_); (case side1 => exact Kd.C_below HR0_0.1 (bh_ GE413.1 GE415.1)); (case side2 => exact HC0_0.1); rintro e w52 ⟨rfl, hb⟩; refine ⟨_, rfl, ?_⟩; have n_ := as3_ (blk_below (g := gb413) (o := .cells #[.slice A0_0 l0_0.length c0_0, .slice A0_1 l0_1.length c0_1, .slice (some ad414) l0_2.length c0_2, .slice A0_3 l0_3.length c0_3, .slice A0_4 l0_4.length c0_4, .int .i64 a0_5] 34 (0, 0)) (by refine pf_ NB413_415.1 ?_; refine pf_ NB413_415.1 ?_; refine pf_ NB413_415.1 ?_; exact pb_ BK413.1) hb) (blk_below (g := gb415) (o := .cells #[.int .i64 (rd_T93 l0_2 x9_1).f0, .int .i64 (rd_T93 l0_2 x9_1).f1, .int .i64 (rd_T93 l0_2 x9_1).f2] 93 (0, 0)) (by refine pc_ (blk_put (cs := #[.int .i64 (rd_T93 l0_2 x9_1).f0, .int .i64 (rd_T93 l0_2 x9_1).f1, .int .i64 0]) ?_ 2 _ rfl); refine pc_ (blk_put (cs := #[.int .i64 (rd_T93 l0_2 x9_1).f0, .int .i64 0, .int .i64 0]) ?_ 1 _ rfl); refine pc_ (blk_put (cs := #[.int .i64 0, .int .i64 0, .int .i64 0]) ?_ 0 _ rfl); exact pb_ BK415.1) hb) (below_step (bh_ GE413.1 GE415.1) hb); clear BK413 BK415 HB; obtain ⟨BK413, BK415, HB⟩ := n_; (try clear hb); obtain ⟨_, _, _, _, _, _, _, _, _, _, _, _⟩ := ce6_ BK413.1; obtain ⟨_, _, _, _, _, _⟩ := ce3_ BK415.1) | (go_at_call 100; (with_reducible refine (impl_instrKind.calls k1 _ _ l0_1 (rd_T93 l0_2 x9_1).f1 t417 _ ?side1 ?side2 A14.1).mono ?_); (case side1 => exact cc_ (Kd.C_below HR0_1.1 HB.1)); (case side2 => exact HC0_1.1); rintro e w55 ⟨rfl, hb⟩; have n_ := as3_ (bl_ BK413.1 hb) (bl_ BK415.1 hb) (below_step (bh_ GE413.1 GE415.1) hb); clear BK413 BK415 HB; obtain ⟨BK413, BK415, HB⟩ := n_; (try clear hb); obtain ⟨_, _, _, _, _, _⟩ := ce3_ BK415.1; obtain ⟨_, _, _, _, _, _, _, _, _, _, _, _⟩ := ce6_ BK413.1) | (go_at_call 101; (with_reducible refine (impl_balsSum.calls k1 _ _ l0_2 (rd_T93 l0_2 x9_1).f1 t418 _ ?side1 ?side2 A35.1).mono ?_); (case side1 => exact cc_ (Kd.C_below HR0_2.1 HB.1)); (case side2 => exact HC0_2.1); rintro e w58 ⟨rfl, hb⟩; have n_ := as3_ (bl_ BK413.1 hb) (bl_ BK415.1 hb) (below_step (bh_ GE413.1 GE415.1) hb); clear BK413 BK415 HB; obtain ⟨BK413, BK415, HB⟩ := n_; (try clear hb)))
           go_ret; exact ⟨er_, bh_ GE413.1 GE415.1⟩
        ·
         rw [if_neg c24] at H; have c24b0 : (t416 == 1) = false := beq_eq_false_iff_ne.mpr c24; have c24b1 : (t416 != 1) = true := bne_iff_ne.mpr c24; replace H := Option.bind_eq_some_iff.mp H; obtain ⟨t419, A590, H⟩ := H; have A59 := Aside0.mk A590; clear A590
         by_cases c60 : t419 = 0
         ·
          rw [if_pos c60] at H; have c60b0 : (t419 == 0) = true := beq_iff_eq.mpr c60; have c60b1 : (t419 != 0) = false := bne_eq_false_iff_eq.mpr c60; clear c60; have H' := Aside0.mk H; clear H; have p414 : 0 ≤ (x9_1 : Int) := od_; have q414 : x9_1 < (l0_2.length : Int) := od_; obtain ⟨ad414, e414, hx414_0, hx414_1, hx414_2⟩ := at_T93 HR0_2.1 x9_1 p414 q414; cases e414; have n_ := cl3_ HB.1 hx414_0 hx414_1 hx414_2; clear hx414_0 hx414_1 hx414_2; obtain ⟨hx414_0, hx414_1, hx414_2⟩ := n_; replace p414 := eq_true p414; replace q414 := eq_true q414
          go_wp2_with (first | ((with_reducible refine gate_dst (N := 4) rfl ?_); refine be_ 4 (cs := #[.int .i64 0, .int .i64 0, .int .i64 0]) (t := 93) ?_; intro gb415 hg w61 hbox hb; have n_ := bz_ hg hbox hb BK413.1 GE413.1; clear BK413 HB; obtain ⟨BK413, HB, BK415, GW415, GE415, NB413_415, NB415_413⟩ := n_; clear hb hbox hg; have hnb62 := NB415_413.1; have hnc62 := NB413_415.1; obtain ⟨_, _, _, _, _, _⟩ := ce3_ BK415.1; obtain ⟨_, _, _, _, _, _, _, _, _, _, _, _⟩ := ce6_ BK413.1) | ((with_reducible refine gate_callee (f := 99) rfl ?_); refine goesL_ (some 17) rfl rfl Try.func99 kr_ rfl #[.slice A0_0 l0_0.length c0_0, .int .i64 (rd_T93 l0_2 x9_1).f0] rfl (bc_) ?_; (with_reducible refine (impl_accountKind.calls k1 _ _ l0_0 (rd_T93 l0_2 x9_1).f0 t416 _ ?side1 ?side2 A7.1).mono ?_); (case side1 => exact Kd.C_below HR0_0.1 (bh_ GE413.1 GE415.1)); (case side2 => exact HC0_0.1); rintro e w65 ⟨rfl, hb⟩; refine ⟨_, rfl, ?_⟩; have n_ := as3_ (blk_below (g := gb413) (o := .cells #[.slice A0_0 l0_0.length c0_0, .slice A0_1 l0_1.length c0_1, .slice (some ad414) l0_2.length c0_2, .slice A0_3 l0_3.length c0_3, .slice A0_4 l0_4.length c0_4, .int .i64 a0_5] 34 (0, 0)) (by refine pf_ NB413_415.1 ?_; refine pf_ NB413_415.1 ?_; refine pf_ NB413_415.1 ?_; exact pb_ BK413.1) hb) (blk_below (g := gb415) (o := .cells #[.int .i64 (rd_T93 l0_2 x9_1).f0, .int .i64 (rd_T93 l0_2 x9_1).f1, .int .i64 (rd_T93 l0_2 x9_1).f2] 93 (0, 0)) (by refine pc_ (blk_put (cs := #[.int .i64 (rd_T93 l0_2 x9_1).f0, .int .i64 (rd_T93 l0_2 x9_1).f1, .int .i64 0]) ?_ 2 _ rfl); refine pc_ (blk_put (cs := #[.int .i64 (rd_T93 l0_2 x9_1).f0, .int .i64 0, .int .i64 0]) ?_ 1 _ rfl); refine pc_ (blk_put (cs := #[.int .i64 0, .int .i64 0, .int .i64 0]) ?_ 0 _ rfl); exact pb_ BK415.1) hb) (below_step (bh_ GE413.1 GE415.1) hb); clear BK413 BK415 HB; obtain ⟨BK413, BK415, HB⟩ := n_; (try clear hb); obtain ⟨_, _, _, _, _, _, _, _, _, _, _, _⟩ := ce6_ BK413.1; obtain ⟨_, _, _, _, _, _⟩ := ce3_ BK415.1) | (go_at_call 100; (with_reducible refine (impl_instrKind.calls k1 _ _ l0_1 (rd_T93 l0_2 x9_1).f1 t417 _ ?side1 ?side2 A14.1).mono ?_); (case side1 => exact cc_ (Kd.C_below HR0_1.1 HB.1)); (case side2 => exact HC0_1.1); rintro e w68 ⟨rfl, hb⟩; have n_ := as3_ (bl_ BK413.1 hb) (bl_ BK415.1 hb) (below_step (bh_ GE413.1 GE415.1) hb); clear BK413 BK415 HB; obtain ⟨BK413, BK415, HB⟩ := n_; (try clear hb); obtain ⟨_, _, _, _, _, _, _, _, _, _, _, _⟩ := ce6_ BK413.1; obtain ⟨_, _, _, _, _, _⟩ := ce3_ BK415.1) | (go_at_call 101; (with_reducible refine (impl_balsSum.calls k1 _ _ l0_2 (rd_T93 l0_2 x9_1).f1 t419 _ ?side1 ?side2 A59.1).mono ?_); (case side1 => exact cc_ (Kd.C_below HR0_2.1 HB.1)); (case side2 => exact HC0_2.1); rintro e w71 ⟨rfl, hb⟩; have n_ := as3_ (bl_ BK413.1 hb) (bl_ BK415.1 hb) (below_step (bh_ GE413.1 GE415.1) hb); clear BK413 BK415 HB; obtain ⟨BK413, BK415, HB⟩ := n_; (try clear hb)))
          go_roundg k1
          case measure => have := HK1.1; omega
          case rel => exact ⟨(wrap64 (x9_1 + 1)), (rs_), H', ⟨by have := HK1.1; omega⟩, ⟨pb_ BK413.1⟩, ⟨bh_ GE413.1 GE415.1⟩⟩
         ·
          rw [if_neg c60] at H; have c60b0 : (t419 == 0) = false := beq_eq_false_iff_ne.mpr c60; have c60b1 : (t419 != 0) = true := bne_iff_ne.mpr c60; obtain rfl := Option.some.inj H; have p414 : 0 ≤ (x9_1 : Int) := od_; have q414 : x9_1 < (l0_2.length : Int) := od_; obtain ⟨ad414, e414, hx414_0, hx414_1, hx414_2⟩ := at_T93 HR0_2.1 x9_1 p414 q414; cases e414; have n_ := cl3_ HB.1 hx414_0 hx414_1 hx414_2; clear hx414_0 hx414_1 hx414_2; obtain ⟨hx414_0, hx414_1, hx414_2⟩ := n_; replace p414 := eq_true p414; replace q414 := eq_true q414
          go_wp2_with (first | ((with_reducible refine gate_dst (N := 4) rfl ?_); refine be_ 4 (cs := #[.int .i64 0, .int .i64 0, .int .i64 0]) (t := 93) ?_; intro gb415 hg w72 hbox hb; have n_ := bz_ hg hbox hb BK413.1 GE413.1; clear BK413 HB; obtain ⟨BK413, HB, BK415, GW415, GE415, NB413_415, NB415_413⟩ := n_; clear hb hbox hg; have hnb73 := NB415_413.1; have hnc73 := NB413_415.1; obtain ⟨_, _, _, _, _, _⟩ := ce3_ BK415.1; obtain ⟨_, _, _, _, _, _, _, _, _, _, _, _⟩ := ce6_ BK413.1) | ((with_reducible refine gate_callee (f := 99) rfl ?_); refine goesL_ (some 17) rfl rfl Try.func99 kr_ rfl #[.slice A0_0 l0_0.length c0_0, .int .i64 (rd_T93 l0_2 x9_1).f0] rfl (bc_) ?_; (with_reducible refine (impl_accountKind.calls k1 _ _ l0_0 (rd_T93 l0_2 x9_1).f0 t416 _ ?side1 ?side2 A7.1).mono ?_); (case side1 => exact Kd.C_below HR0_0.1 (bh_ GE413.1 GE415.1)); (case side2 => exact HC0_0.1); rintro e w76 ⟨rfl, hb⟩; refine ⟨_, rfl, ?_⟩; have n_ := as3_ (blk_below (g := gb413) (o := .cells #[.slice A0_0 l0_0.length c0_0, .slice A0_1 l0_1.length c0_1, .slice (some ad414) l0_2.length c0_2, .slice A0_3 l0_3.length c0_3, .slice A0_4 l0_4.length c0_4, .int .i64 a0_5] 34 (0, 0)) (by refine pf_ NB413_415.1 ?_; refine pf_ NB413_415.1 ?_; refine pf_ NB413_415.1 ?_; exact pb_ BK413.1) hb) (blk_below (g := gb415) (o := .cells #[.int .i64 (rd_T93 l0_2 x9_1).f0, .int .i64 (rd_T93 l0_2 x9_1).f1, .int .i64 (rd_T93 l0_2 x9_1).f2] 93 (0, 0)) (by refine pc_ (blk_put (cs := #[.int .i64 (rd_T93 l0_2 x9_1).f0, .int .i64 (rd_T93 l0_2 x9_1).f1, .int .i64 0]) ?_ 2 _ rfl); refine pc_ (blk_put (cs := #[.int .i64 (rd_T93 l0_2 x9_1).f0, .int .i64 0, .int .i64 0]) ?_ 1 _ rfl); refine pc_ (blk_put (cs := #[.int .i64 0, .int .i64 0, .int .i64 0]) ?_ 0 _ rfl); exact pb_ BK415.1) hb) (below_step (bh_ GE413.1 GE415.1) hb); clear BK413 BK415 HB; obtain ⟨BK413, BK415, HB⟩ := n_; (try clear hb); obtain ⟨_, _, _, _, _, _, _, _, _, _, _, _⟩ := ce6_ BK413.1; obtain ⟨_, _, _, _, _, _⟩ := ce3_ BK415.1) | (go_at_call 100; (with_reducible refine (impl_instrKind.calls k1 _ _ l0_1 (rd_T93 l0_2 x9_1).f1 t417 _ ?side1 ?side2 A14.1).mono ?_); (case side1 => exact cc_ (Kd.C_below HR0_1.1 HB.1)); (case side2 => exact HC0_1.1); rintro e w79 ⟨rfl, hb⟩; have n_ := as3_ (bl_ BK413.1 hb) (bl_ BK415.1 hb) (below_step (bh_ GE413.1 GE415.1) hb); clear BK413 BK415 HB; obtain ⟨BK413, BK415, HB⟩ := n_; (try clear hb); obtain ⟨_, _, _, _, _, _, _, _, _, _, _, _⟩ := ce6_ BK413.1; obtain ⟨_, _, _, _, _, _⟩ := ce3_ BK415.1) | (go_at_call 101; (with_reducible refine (impl_balsSum.calls k1 _ _ l0_2 (rd_T93 l0_2 x9_1).f1 t419 _ ?side1 ?side2 A59.1).mono ?_); (case side1 => exact cc_ (Kd.C_below HR0_2.1 HB.1)); (case side2 => exact HC0_2.1); rintro e w82 ⟨rfl, hb⟩; have n_ := as3_ (bl_ BK413.1 hb) (bl_ BK415.1 hb) (below_step (bh_ GE413.1 GE415.1) hb); clear BK413 BK415 HB; obtain ⟨BK413, BK415, HB⟩ := n_; (try clear hb)))
          go_ret; exact ⟨er_, bh_ GE413.1 GE415.1⟩
     ·
      rw [if_neg c6] at H; exact absurd H (by simp)
    ·
     rw [if_neg c5] at H; exact absurd H (by simp)
   ·
    rw [if_neg c4] at H; have c4b0 : decide (x9_1 < (l0_2.length : Int)) = false := decide_eq_false c4; clear c4; obtain rfl := Option.some.inj H; go_wp2; go_ret; exact ⟨er_, bg_ GE413.1⟩
def impl_balAt.l0 : Nat → List (S93) → Int → Int → List (S93) → Int → Int → Option (Int × Bool)
 | 0, _, _, _, _, _, _ => none
 | k + 1, x0, x1, x2, x11, x12, x13 => if x13 < x12 then (if 0 ≤ x13 then (if x13 < (x11.length : Int) then ((impl_byBoth.f k (rd_T93 x11 x13).f0 (rd_T93 x11 x13).f1 x1 x2).bind fun t422 => (if t422 ≥ 0 then (some (x13, (t422 == 0))) else (impl_balAt.l0 k x0 x1 x2 x11 x12 (wrap64 (x13 + 1))))) else (none)) else (none)) else (some ((x0.length : Int), false))
def impl_balAt.f (k : Nat) (l0 : List (S93)) (a1 : Int) (a2 : Int) : Option (Int × Bool) := impl_balAt.l0 k l0 a1 a2 l0 (l0.length : Int) 0
theorem impl_balAt.calls (k : Nat) (A0 : Option Addr) (c0 : Nat) (l0 : List (S93)) (a1 : Int) (a2 : Int) (r1 : Int) (r2 : Bool) (w : World) (hr0 : Kd.C k93 w A0 l0.length l0) (hc0 : l0.length ≤ c0) (h : impl_balAt.f k l0 a1 a2 = some (r1, r2)) :
 Calls Try.prog 113 #[.slice A0 l0.length c0, .int .i64 a1, .int .i64 a2] w fun e w' => e = .returned (.tuple #[.int .i64 r1, .bool r2]) ∧ Below w.heap.size w w' := by
 have hu93 := Try.underlying93; have HR0 := Aside0.mk hr0; have HC0 := Aside0.mk hc0; clear hr0 hc0; have HB := Aside0.mk (Below.refl w.heap.size w); have H : (impl_balAt.l0 k l0 a1 a2 l0 (l0.length : Int) 0) = some (r1, r2) := h; clear h; have H' := Aside0.mk H; clear H; go_enter Try.func113, Try.ntmps113; go_wp2; go_loopg [13] k (fun kq v13 w' => ∃ (x13_1 : Int), v13 = .int .i64 x13_1 ∧ Aside0 (impl_balAt.l0 kq l0 a1 a2 l0 (l0.length : Int) x13_1 = some (r1, r2)) ∧ Aside0 (kq ≤ k) ∧ Aside0 (Below w.heap.size w w'))
 case atStart => exact ⟨(0), (rs_), H', ⟨Nat.le_refl _⟩, ⟨bb_⟩⟩
 case round =>
  clear H'; try clear c1
  try clear p2
  obtain ⟨x13_1, rfl, HA, HK1, HB⟩ := hrel
  cases gk with
  | zero => exact absurd HA.1 (by simp [impl_balAt.l0])
  | succ k1 =>
   have H := HA.1; clear HA; simp only [impl_balAt.l0] at H
   by_cases c4 : x13_1 < (l0.length : Int)
   ·
    rw [if_pos c4] at H; have c4b0 : decide (x13_1 < (l0.length : Int)) = true := decide_eq_true c4; clear c4
    by_cases c5 : 0 ≤ x13_1
    ·
     rw [if_pos c5] at H; have c5b0 : decide (0 ≤ x13_1) = true := decide_eq_true c5; clear c5
     by_cases c6 : x13_1 < (l0.length : Int)
     ·
      rw [if_pos c6] at H; have c6b0 : decide (x13_1 < (l0.length : Int)) = true := decide_eq_true c6; clear c6; replace H := Option.bind_eq_some_iff.mp H; obtain ⟨t422, A70, H⟩ := H; have A7 := Aside0.mk A70; clear A70
      by_cases c8 : t422 ≥ 0
      ·
       rw [if_pos c8] at H; have c8b0 : decide (0 ≤ t422) = true := decide_eq_true c8; clear c8; simp only [Option.some.injEq, Prod.mk.injEq] at H; obtain ⟨rfl, rfl⟩ := H; have p420 : 0 ≤ (x13_1 : Int) := od_; have q420 : x13_1 < (l0.length : Int) := od_; obtain ⟨ad420, e420, hx420_0, hx420_1, hx420_2⟩ := at_T93 HR0.1 x13_1 p420 q420; cases e420; have n_ := cl3_ HB.1 hx420_0 hx420_1 hx420_2; clear hx420_0 hx420_1 hx420_2; obtain ⟨hx420_0, hx420_1, hx420_2⟩ := n_; replace p420 := eq_true p420; replace q420 := eq_true q420; go_wp2_with (first | ((with_reducible refine gate_dst (N := 9) rfl ?_); refine be_ 9 (cs := #[.int .i64 0, .int .i64 0, .int .i64 0]) (t := 93) ?_; intro gb421 hg w9 hbox hb; have n_ := bx_ hg hbox hb; clear HB; obtain ⟨HB, BK421, GW421, GE421⟩ := n_; clear hb hbox hg; obtain ⟨_, _, _, _, _, _⟩ := ce3_ BK421.1) | ((with_reducible refine gate_callee (f := 92) rfl ?_); refine goesL_ (some 24) rfl rfl Try.func92 kr_ rfl #[.int .i64 (rd_T93 l0 x13_1).f0, .int .i64 (rd_T93 l0 x13_1).f1, .int .i64 a1, .int .i64 a2] rfl (bc_) ?_; (with_reducible refine (impl_byBoth.calls k1 (rd_T93 l0 x13_1).f0 (rd_T93 l0 x13_1).f1 a1 a2 t422 _ A7.1).mono ?_); rintro e w' ⟨rfl, ⟨nd, rfl⟩⟩; refine ⟨_, rfl, ?_⟩))
       go_ret2; exact ⟨er_, bg_ GE421.1⟩
      ·
       rw [if_neg c8] at H; have c8b0 : decide (0 ≤ t422) = false := decide_eq_false c8; clear c8; have H' := Aside0.mk H; clear H; have p420 : 0 ≤ (x13_1 : Int) := od_; have q420 : x13_1 < (l0.length : Int) := od_; obtain ⟨ad420, e420, hx420_0, hx420_1, hx420_2⟩ := at_T93 HR0.1 x13_1 p420 q420; cases e420; have n_ := cl3_ HB.1 hx420_0 hx420_1 hx420_2; clear hx420_0 hx420_1 hx420_2; obtain ⟨hx420_0, hx420_1, hx420_2⟩ := n_; replace p420 := eq_true p420; replace q420 := eq_true q420; go_wp2_with (first | ((with_reducible refine gate_dst (N := 9) rfl ?_); refine be_ 9 (cs := #[.int .i64 0, .int .i64 0, .int .i64 0]) (t := 93) ?_; intro gb421 hg w11 hbox hb; have n_ := bx_ hg hbox hb; clear HB; obtain ⟨HB, BK421, GW421, GE421⟩ := n_; clear hb hbox hg; obtain ⟨_, _, _, _, _, _⟩ := ce3_ BK421.1) | ((with_reducible refine gate_callee (f := 92) rfl ?_); refine goesL_ (some 24) rfl rfl Try.func92 kr_ rfl #[.int .i64 (rd_T93 l0 x13_1).f0, .int .i64 (rd_T93 l0 x13_1).f1, .int .i64 a1, .int .i64 a2] rfl (bc_) ?_; (with_reducible refine (impl_byBoth.calls k1 (rd_T93 l0 x13_1).f0 (rd_T93 l0 x13_1).f1 a1 a2 t422 _ A7.1).mono ?_); rintro e w' ⟨rfl, ⟨nd, rfl⟩⟩; refine ⟨_, rfl, ?_⟩))
       go_roundg k1
       case measure => have := HK1.1; omega
       case rel => exact ⟨(wrap64 (x13_1 + 1)), (rs_), H', ⟨by have := HK1.1; omega⟩, ⟨bg_ GE421.1⟩⟩
     ·
      rw [if_neg c6] at H; exact absurd H (by simp)
    ·
     rw [if_neg c5] at H; exact absurd H (by simp)
   ·
    rw [if_neg c4] at H; have c4b0 : decide (x13_1 < (l0.length : Int)) = false := decide_eq_false c4; clear c4; simp only [Option.some.injEq, Prod.mk.injEq] at H; obtain ⟨rfl, rfl⟩ := H; go_wp2; go_ret2; exact ⟨er_, bb_⟩
def impl_balOf.f (k : Nat) (l0 : List (S93)) (a1 : Int) (a2 : Int) : Option (Int) := (impl_balAt.f k l0 a1 a2).bind fun bt423 => (if bt423.2 = true then (if 0 ≤ bt423.1 then (if bt423.1 < (l0.length : Int) then (some (rd_T93 l0 bt423.1).f2) else (none)) else (none)) else (some 0))
theorem impl_balOf.calls (k : Nat) (A0 : Option Addr) (c0 : Nat) (l0 : List (S93)) (a1 : Int) (a2 : Int) (r : Int) (w : World) (hr0 : Kd.C k93 w A0 l0.length l0) (hc0 : l0.length ≤ c0) (h : impl_balOf.f k l0 a1 a2 = some r) :
 Calls Try.prog 102 #[.slice A0 l0.length c0, .int .i64 a1, .int .i64 a2] w fun e w' => e = .returned (.int .i64 r) ∧ Below w.heap.size w w' := by
 have HR0 := Aside0.mk hr0; have HC0 := Aside0.mk hc0; clear hr0 hc0; have HB := Aside0.mk (Below.refl w.heap.size w); have H : ((impl_balAt.f k l0 a1 a2).bind fun bt423 => (if bt423.2 = true then (if 0 ≤ bt423.1 then (if bt423.1 < (l0.length : Int) then (some (rd_T93 l0 bt423.1).f2) else (none)) else (none)) else (some 0))) = some r := h; clear h; replace H := Option.bind_eq_some_iff.mp H; obtain ⟨⟨t423, t424⟩, A40, H⟩ := H; replace H : (if t424 = true then (if 0 ≤ t423 then (if t423 < (l0.length : Int) then (some (rd_T93 l0 t423).f2) else (none)) else (none)) else (some 0)) = some r := H; have A4 := Aside0.mk A40; clear A40
 by_cases c5 : t424 = true
 ·
  subst c5; replace H := Eq.trans (if_pos rfl).symm H
  by_cases c6 : 0 ≤ t423
  ·
   rw [if_pos c6] at H; have c6b0 : decide (0 ≤ t423) = true := decide_eq_true c6; clear c6
   by_cases c7 : t423 < (l0.length : Int)
   ·
    rw [if_pos c7] at H; have c7b0 : decide (t423 < (l0.length : Int)) = true := decide_eq_true c7; clear c7; obtain rfl := Option.some.inj H; go_enter Try.func102, Try.ntmps102; go_wp2_with (first | ((with_reducible refine gate_callee (f := 113) rfl ?_); refine goesL_ (some 13) rfl rfl Try.func113 kr_ rfl #[.slice A0 l0.length c0, .int .i64 a1, .int .i64 a2] rfl (bc_) ?_; (with_reducible refine (impl_balAt.calls k _ _ l0 a1 a2 t423 true _ ?side1 ?side2 A4.1).mono ?_); (case side1 => exact cc_ HR0.1); (case side2 => exact HC0.1); rintro e w8 ⟨rfl, hb⟩; refine ⟨_, rfl, ?_⟩; replace HB := Aside0.mk (below_step (bb_) hb); (try clear hb); have p425 : 0 ≤ (t423 : Int) := od_; have q425 : t423 < (l0.length : Int) := od_; obtain ⟨ad425, e425, hx425_0, hx425_1, hx425_2⟩ := at_T93 HR0.1 t423 p425 q425; cases e425; have n_ := cl3_ HB.1 hx425_0 hx425_1 hx425_2; clear hx425_0 hx425_1 hx425_2; obtain ⟨hx425_0, hx425_1, hx425_2⟩ := n_; replace p425 := eq_true p425; replace q425 := eq_true q425))
    go_ret; exact ⟨er_, bb_⟩
   ·
    rw [if_neg c7] at H; exact absurd H (by simp)
  ·
   rw [if_neg c6] at H; exact absurd H (by simp)
 ·
  replace c5 := Bool.eq_false_iff.mpr c5; subst c5; replace H := Eq.trans (if_neg nf_).symm H; obtain rfl := Option.some.inj H; go_enter Try.func102, Try.ntmps102; go_wp2_with (first | ((with_reducible refine gate_callee (f := 113) rfl ?_); refine goesL_ (some 13) rfl rfl Try.func113 kr_ rfl #[.slice A0 l0.length c0, .int .i64 a1, .int .i64 a2] rfl (bc_) ?_; (with_reducible refine (impl_balAt.calls k _ _ l0 a1 a2 t423 false _ ?side1 ?side2 A4.1).mono ?_); (case side1 => exact cc_ HR0.1); (case side2 => exact HC0.1); rintro e w9 ⟨rfl, hb⟩; refine ⟨_, rfl, ?_⟩; replace HB := Aside0.mk (below_step (bb_) hb); (try clear hb)))
  go_ret; exact ⟨er_, bb_⟩
mutual
def impl_lotsRight.l0 : Nat → List (S96) → Int → Int → List (S88) → List (S90) → List (S93) → List (S96) → List (S50) → Int → Option (Bool)
 | 0, _, _, _, _, _, _, _, _, _ => none
 | k + 1, x12, x13, x14, x427000, x427001, x427002, x427003, x427004, x427005 => if x14 < x13 then (if 0 ≤ x14 then (if x14 < (x12.length : Int) then ((impl_accountKind.f k x427000 (rd_T96 x12 x14).f0).bind fun t429 => (if t429 = 1 then ((impl_instrKind.f k x427001 (rd_T96 x12 x14).f1).bind fun t430 => (if t430 = 2 then (if (rd_T96 x12 x14).f2 > x427005 then (some false) else (impl_lotsRight.l0 k x12 x13 (wrap64 (x14 + 1)) x427000 x427001 x427002 x427003 x427004 x427005)) else (some false))) else (some false))) else (none)) else (none)) else (impl_lotsRight.l1 k x427000 (x427000.length : Int) 0 x427000 x427001 x427002 x427003 x427004 x427005)
def impl_lotsRight.l1 : Nat → List (S88) → Int → Int → List (S88) → List (S90) → List (S93) → List (S96) → List (S50) → Int → Option (Bool)
 | 0, _, _, _, _, _, _, _, _, _ => none
 | k + 1, x41, x42, x43, x427000, x427001, x427002, x427003, x427004, x427005 => if x43 < x42 then (if 0 ≤ x43 then (if x43 < (x41.length : Int) then (impl_lotsRight.l2 k x41 x42 x43 x427001 (x427001.length : Int) 0 x427000 x427001 x427002 x427003 x427004 x427005 (rd_T88 x41 x43).f0 (rd_T88 x41 x43).f1) else (none)) else (none)) else (some true)
def impl_lotsRight.l2 : Nat → List (S88) → Int → Int → List (S90) → Int → Int → List (S88) → List (S90) → List (S93) → List (S96) → List (S50) → Int → Int → Int → Option (Bool)
 | 0, _, _, _, _, _, _, _, _, _, _, _, _, _, _ => none
 | k + 1, x41, x42, x43, x48, x49, x50, x427000, x427001, x427002, x427003, x427004, x427005, x433000, x433001 => if x50 < x49 then (if 0 ≤ x50 then (if x50 < (x48.length : Int) then (if x433001 = 1 then (impl_lotsRight.j3 k x41 x42 x43 x48 x49 x50 ((rd_T90 x48 x50).f1 != 2) x427000 x427001 x427002 x427003 x427004 x427005 x433000 x433001 (rd_T90 x48 x50).f0 (rd_T90 x48 x50).f1) else (impl_lotsRight.j3 k x41 x42 x43 x48 x49 x50 true x427000 x427001 x427002 x427003 x427004 x427005 x433000 x433001 (rd_T90 x48 x50).f0 (rd_T90 x48 x50).f1)) else (none)) else (none)) else (impl_lotsRight.l1 k x41 x42 (wrap64 (x43 + 1)) x427000 x427001 x427002 x427003 x427004 x427005)
def impl_lotsRight.j3 : Nat → List (S88) → Int → Int → List (S90) → Int → Int → Bool → List (S88) → List (S90) → List (S93) → List (S96) → List (S50) → Int → Int → Int → Int → Int → Option (Bool)
 | 0, _, _, _, _, _, _, _, _, _, _, _, _, _, _, _, _, _ => none
 | k + 1, x41, x42, x43, x48, x49, x50, x61, x427000, x427001, x427002, x427003, x427004, x427005, x433000, x433001, x435000, x435001 => if x61 = true then (impl_lotsRight.l2 k x41 x42 x43 x48 x49 (wrap64 (x50 + 1)) x427000 x427001 x427002 x427003 x427004 x427005 x433000 x433001) else ((impl_lotsOf.f x427003 x433000 x435000).bind fun t435 => ((impl_sumLots.f k t435).bind fun bt438 => ((impl_balOf.f k x427002 x433000 x435000).bind fun t440 => (if bt438.1 = t440 then (impl_lotsRight.l2 k x41 x42 x43 x48 x49 (wrap64 (x50 + 1)) x427000 x427001 x427002 x427003 x427004 x427005 x433000 x433001) else (some false)))))
end
def impl_lotsRight.f (k : Nat) (l0_0 : List (S88)) (l0_1 : List (S90)) (l0_2 : List (S93)) (l0_3 : List (S96)) (l0_4 : List (S50)) (a0_5 : Int) : Option (Bool) := impl_lotsRight.l0 k l0_3 (l0_3.length : Int) 0 l0_0 l0_1 l0_2 l0_3 l0_4 a0_5
theorem impl_lotsRight.calls (k : Nat) (A0_0 : Option Addr) (c0_0 : Nat) (l0_0 : List (S88)) (A0_1 : Option Addr) (c0_1 : Nat) (l0_1 : List (S90)) (A0_2 : Option Addr) (c0_2 : Nat) (l0_2 : List (S93)) (A0_3 : Option Addr) (c0_3 : Nat) (l0_3 : List (S96)) (A0_4 : Option Addr) (c0_4 : Nat) (l0_4 : List (S50)) (a0_5 : Int) (r : Bool) (w : World) (hr0_0 : Kd.C k88 w A0_0 l0_0.length l0_0) (hc0_0 : l0_0.length ≤ c0_0) (hr0_1 : Kd.C k90 w A0_1 l0_1.length l0_1) (hc0_1 : l0_1.length ≤ c0_1) (hr0_2 : Kd.C k93 w A0_2 l0_2.length l0_2) (hc0_2 : l0_2.length ≤ c0_2) (hr0_3 : Kd.C k96 w A0_3 l0_3.length l0_3) (hc0_3 : l0_3.length ≤ c0_3) (hr0_4 : Kd.C k50 w A0_4 l0_4.length l0_4) (hc0_4 : l0_4.length ≤ c0_4) (h : impl_lotsRight.f k l0_0 l0_1 l0_2 l0_3 l0_4 a0_5 = some r) :
 Calls Try.prog 71 #[.agg #[.slice A0_0 l0_0.length c0_0, .slice A0_1 l0_1.length c0_1, .slice A0_2 l0_2.length c0_2, .slice A0_3 l0_3.length c0_3, .slice A0_4 l0_4.length c0_4, .int .i64 a0_5]] w fun e w' => e = .returned (.bool r) ∧ Below w.heap.size w w' := by
 have hu34 := Try.underlying34; have hu96 := Try.underlying96; have hu88 := Try.underlying88; have hu90 := Try.underlying90; have HR0_0 := Aside0.mk hr0_0; have HC0_0 := Aside0.mk hc0_0; clear hr0_0 hc0_0; have HR0_1 := Aside0.mk hr0_1; have HC0_1 := Aside0.mk hc0_1; clear hr0_1 hc0_1; have HR0_2 := Aside0.mk hr0_2; have HC0_2 := Aside0.mk hc0_2; clear hr0_2 hc0_2; have HR0_3 := Aside0.mk hr0_3; have HC0_3 := Aside0.mk hc0_3; clear hr0_3 hc0_3; have HR0_4 := Aside0.mk hr0_4; have HC0_4 := Aside0.mk hc0_4; clear hr0_4 hc0_4; have HB := Aside0.mk (Below.refl w.heap.size w); have H : (impl_lotsRight.l0 k l0_3 (l0_3.length : Int) 0 l0_0 l0_1 l0_2 l0_3 l0_4 a0_5) = some r := h; clear h; have H' := Aside0.mk H; clear H; go_enter Try.func71, Try.ntmps71; go_wp2_with (first | ((with_reducible refine gate_dst (N := 1) rfl ?_); refine be_ 1 (cs := #[.slice A0_0 l0_0.length c0_0, .slice A0_1 l0_1.length c0_1, .slice A0_2 l0_2.length c0_2, .slice A0_3 l0_3.length c0_3, .slice A0_4 l0_4.length c0_4, .int .i64 a0_5]) (t := 34) ?_; intro gb426 hg w2 hbox hb; have n_ := bx_ hg hbox hb; clear HB; obtain ⟨HB, BK426, GW426, GE426⟩ := n_; clear hb hbox hg; obtain ⟨_, _, _, _, _, _, _, _, _, _, _, _⟩ := ce6_ BK426.1))
 go_loopg [14] k (fun kq v14 w' => ∃ (x14_1 : Int), v14 = .int .i64 x14_1 ∧ Aside0 (impl_lotsRight.l0 kq l0_3 (l0_3.length : Int) x14_1 l0_0 l0_1 l0_2 l0_3 l0_4 a0_5 = some r) ∧ Aside0 (kq ≤ k) ∧ Aside0 (w'.heap[gb426]? = some (.cells #[(.slice A0_0 l0_0.length c0_0), (.slice A0_1 l0_1.length c0_1), (.slice A0_2 l0_2.length c0_2), (.slice A0_3 l0_3.length c0_3), (.slice A0_4 l0_4.length c0_4), .int .i64 a0_5] 34 (0, 0))) ∧ Aside0 (Below w.heap.size w w'))
 case atStart => exact ⟨(0), (rs_), H', ⟨Nat.le_refl _⟩, ⟨pb_ BK426.1⟩, ⟨bg_ GE426.1⟩⟩
 case round =>
  clear H'; try clear p2
  obtain ⟨x14_1, rfl, HA, HK1, BK426, HB⟩ := hrel
  cases gk with
  | zero => exact absurd HA.1 (by simp [impl_lotsRight.l0])
  | succ k1 =>
   have H := HA.1; clear HA; simp only [impl_lotsRight.l0] at H
   by_cases c4 : x14_1 < (l0_3.length : Int)
   ·
    rw [if_pos c4] at H; have c4b0 : decide (x14_1 < (l0_3.length : Int)) = true := decide_eq_true c4; clear c4
    by_cases c5 : 0 ≤ x14_1
    ·
     rw [if_pos c5] at H; have c5b0 : decide (0 ≤ x14_1) = true := decide_eq_true c5; clear c5
     by_cases c6 : x14_1 < (l0_3.length : Int)
     ·
      rw [if_pos c6] at H; have c6b0 : decide (x14_1 < (l0_3.length : Int)) = true := decide_eq_true c6; clear c6; replace H := Option.bind_eq_some_iff.mp H; obtain ⟨t429, A70, H⟩ := H; have A7 := Aside0.mk A70; clear A70
      by_cases c8 : t429 = 1
      ·
       rw [if_pos c8] at H; have c8b0 : (t429 == 1) = true := beq_iff_eq.mpr c8; have c8b1 : (t429 != 1) = false := bne_eq_false_iff_eq.mpr c8; clear c8; replace H := Option.bind_eq_some_iff.mp H; obtain ⟨t430, A90, H⟩ := H; have A9 := Aside0.mk A90; clear A90
       by_cases c10 : t430 = 2
       ·
        rw [if_pos c10] at H; have c10b0 : (t430 == 2) = true := beq_iff_eq.mpr c10; have c10b1 : (t430 != 2) = false := bne_eq_false_iff_eq.mpr c10; clear c10
        by_cases c11 : (rd_T96 l0_3 x14_1).f2 > a0_5
        ·
         rw [if_pos c11] at H; have c11b0 : decide (a0_5 < (rd_T96 l0_3 x14_1).f2) = true := decide_eq_true c11; clear c11; obtain rfl := Option.some.inj H; have p427 : 0 ≤ (x14_1 : Int) := od_; have q427 : x14_1 < (l0_3.length : Int) := od_; obtain ⟨ad427, e427, hx427_0, hx427_1, hx427_2, hx427_3, hx427_4⟩ := at_T96 HR0_3.1 x14_1 p427 q427; cases e427; have n_ := cl5_ HB.1 hx427_0 hx427_1 hx427_2 hx427_3 hx427_4; clear hx427_0 hx427_1 hx427_2 hx427_3 hx427_4; obtain ⟨hx427_0, hx427_1, hx427_2, hx427_3, hx427_4⟩ := n_; replace p427 := eq_true p427; replace q427 := eq_true q427
         go_wp2_with (first | ((with_reducible refine gate_dst (N := 4) rfl ?_); refine be_ 4 (cs := #[.int .i64 0, .int .i64 0, .int .i64 0, .int .i64 0, .int .i64 0]) (t := 96) ?_; intro gb428 hg w12 hbox hb; have n_ := bz_ hg hbox hb BK426.1 GE426.1; clear BK426 HB; obtain ⟨BK426, HB, BK428, GW428, GE428, NB426_428, NB428_426⟩ := n_; clear hb hbox hg; have hnb13 := NB428_426.1; have hnc13 := NB426_428.1; obtain ⟨_, _, _, _, _, _, _, _, _, _⟩ := ce5_ BK428.1; obtain ⟨_, _, _, _, _, _, _, _, _, _, _, _⟩ := ce6_ BK426.1) | ((with_reducible refine gate_callee (f := 99) rfl ?_); refine goesL_ (some 22) rfl rfl Try.func99 kr_ rfl #[.slice A0_0 l0_0.length c0_0, .int .i64 (rd_T96 l0_3 x14_1).f0] rfl (bc_) ?_; (with_reducible refine (impl_accountKind.calls k1 _ _ l0_0 (rd_T96 l0_3 x14_1).f0 t429 _ ?side1 ?side2 A7.1).mono ?_); (case side1 => exact Kd.C_below HR0_0.1 (bh_ GE426.1 GE428.1)); (case side2 => exact HC0_0.1); rintro e w16 ⟨rfl, hb⟩; refine ⟨_, rfl, ?_⟩; have n_ := as3_ (blk_below (g := gb426) (o := .cells #[.slice A0_0 l0_0.length c0_0, .slice A0_1 l0_1.length c0_1, .slice A0_2 l0_2.length c0_2, .slice (some ad427) l0_3.length c0_3, .slice A0_4 l0_4.length c0_4, .int .i64 a0_5] 34 (0, 0)) (by refine pf_ NB426_428.1 ?_; refine pf_ NB426_428.1 ?_; refine pf_ NB426_428.1 ?_; refine pf_ NB426_428.1 ?_; refine pf_ NB426_428.1 ?_; exact pb_ BK426.1) hb) (blk_below (g := gb428) (o := .cells #[.int .i64 (rd_T96 l0_3 x14_1).f0, .int .i64 (rd_T96 l0_3 x14_1).f1, .int .i64 (rd_T96 l0_3 x14_1).f2, .int .i64 (rd_T96 l0_3 x14_1).f3, .int .i64 (rd_T96 l0_3 x14_1).f4] 96 (0, 0)) (by refine pc_ (blk_put (cs := #[.int .i64 (rd_T96 l0_3 x14_1).f0, .int .i64 (rd_T96 l0_3 x14_1).f1, .int .i64 (rd_T96 l0_3 x14_1).f2, .int .i64 (rd_T96 l0_3 x14_1).f3, .int .i64 0]) ?_ 4 _ rfl); refine pc_ (blk_put (cs := #[.int .i64 (rd_T96 l0_3 x14_1).f0, .int .i64 (rd_T96 l0_3 x14_1).f1, .int .i64 (rd_T96 l0_3 x14_1).f2, .int .i64 0, .int .i64 0]) ?_ 3 _ rfl); refine pc_ (blk_put (cs := #[.int .i64 (rd_T96 l0_3 x14_1).f0, .int .i64 (rd_T96 l0_3 x14_1).f1, .int .i64 0, .int .i64 0, .int .i64 0]) ?_ 2 _ rfl); refine pc_ (blk_put (cs := #[.int .i64 (rd_T96 l0_3 x14_1).f0, .int .i64 0, .int .i64 0, .int .i64 0, .int .i64 0]) ?_ 1 _ rfl); refine pc_ (blk_put (cs := #[.int .i64 0, .int .i64 0, .int .i64 0, .int .i64 0, .int .i64 0]) ?_ 0 _ rfl); exact pb_ BK428.1) hb) (below_step (bh_ GE426.1 GE428.1) hb); clear BK426 BK428 HB; obtain ⟨BK426, BK428, HB⟩ := n_; (try clear hb); obtain ⟨_, _, _, _, _, _, _, _, _, _, _, _⟩ := ce6_ BK426.1; obtain ⟨_, _, _, _, _, _, _, _, _, _⟩ := ce5_ BK428.1) | (go_at_call 100; (with_reducible refine (impl_instrKind.calls k1 _ _ l0_1 (rd_T96 l0_3 x14_1).f1 t430 _ ?side1 ?side2 A9.1).mono ?_); (case side1 => exact cc_ (Kd.C_below HR0_1.1 HB.1)); (case side2 => exact HC0_1.1); rintro e w19 ⟨rfl, hb⟩; have n_ := as3_ (bl_ BK426.1 hb) (bl_ BK428.1 hb) (below_step (bh_ GE426.1 GE428.1) hb); clear BK426 BK428 HB; obtain ⟨BK426, BK428, HB⟩ := n_; (try clear hb); obtain ⟨_, _, _, _, _, _, _, _, _, _⟩ := ce5_ BK428.1; obtain ⟨_, _, _, _, _, _, _, _, _, _, _, _⟩ := ce6_ BK426.1))
         go_ret; exact ⟨er_, bh_ GE426.1 GE428.1⟩
        ·
         rw [if_neg c11] at H; have c11b0 : decide (a0_5 < (rd_T96 l0_3 x14_1).f2) = false := decide_eq_false c11; clear c11; have H' := Aside0.mk H; clear H; have p427 : 0 ≤ (x14_1 : Int) := od_; have q427 : x14_1 < (l0_3.length : Int) := od_; obtain ⟨ad427, e427, hx427_0, hx427_1, hx427_2, hx427_3, hx427_4⟩ := at_T96 HR0_3.1 x14_1 p427 q427; cases e427; have n_ := cl5_ HB.1 hx427_0 hx427_1 hx427_2 hx427_3 hx427_4; clear hx427_0 hx427_1 hx427_2 hx427_3 hx427_4; obtain ⟨hx427_0, hx427_1, hx427_2, hx427_3, hx427_4⟩ := n_; replace p427 := eq_true p427; replace q427 := eq_true q427
         go_wp2_with (first | ((with_reducible refine gate_dst (N := 4) rfl ?_); refine be_ 4 (cs := #[.int .i64 0, .int .i64 0, .int .i64 0, .int .i64 0, .int .i64 0]) (t := 96) ?_; intro gb428 hg w22 hbox hb; have n_ := bz_ hg hbox hb BK426.1 GE426.1; clear BK426 HB; obtain ⟨BK426, HB, BK428, GW428, GE428, NB426_428, NB428_426⟩ := n_; clear hb hbox hg; have hnb23 := NB428_426.1; have hnc23 := NB426_428.1; obtain ⟨_, _, _, _, _, _, _, _, _, _⟩ := ce5_ BK428.1; obtain ⟨_, _, _, _, _, _, _, _, _, _, _, _⟩ := ce6_ BK426.1) | ((with_reducible refine gate_callee (f := 99) rfl ?_); refine goesL_ (some 22) rfl rfl Try.func99 kr_ rfl #[.slice A0_0 l0_0.length c0_0, .int .i64 (rd_T96 l0_3 x14_1).f0] rfl (bc_) ?_; (with_reducible refine (impl_accountKind.calls k1 _ _ l0_0 (rd_T96 l0_3 x14_1).f0 t429 _ ?side1 ?side2 A7.1).mono ?_); (case side1 => exact Kd.C_below HR0_0.1 (bh_ GE426.1 GE428.1)); (case side2 => exact HC0_0.1); rintro e w26 ⟨rfl, hb⟩; refine ⟨_, rfl, ?_⟩; have n_ := as3_ (blk_below (g := gb426) (o := .cells #[.slice A0_0 l0_0.length c0_0, .slice A0_1 l0_1.length c0_1, .slice A0_2 l0_2.length c0_2, .slice (some ad427) l0_3.length c0_3, .slice A0_4 l0_4.length c0_4, .int .i64 a0_5] 34 (0, 0)) (by refine pf_ NB426_428.1 ?_; refine pf_ NB426_428.1 ?_; refine pf_ NB426_428.1 ?_; refine pf_ NB426_428.1 ?_; refine pf_ NB426_428.1 ?_; exact pb_ BK426.1) hb) (blk_below (g := gb428) (o := .cells #[.int .i64 (rd_T96 l0_3 x14_1).f0, .int .i64 (rd_T96 l0_3 x14_1).f1, .int .i64 (rd_T96 l0_3 x14_1).f2, .int .i64 (rd_T96 l0_3 x14_1).f3, .int .i64 (rd_T96 l0_3 x14_1).f4] 96 (0, 0)) (by refine pc_ (blk_put (cs := #[.int .i64 (rd_T96 l0_3 x14_1).f0, .int .i64 (rd_T96 l0_3 x14_1).f1, .int .i64 (rd_T96 l0_3 x14_1).f2, .int .i64 (rd_T96 l0_3 x14_1).f3, .int .i64 0]) ?_ 4 _ rfl); refine pc_ (blk_put (cs := #[.int .i64 (rd_T96 l0_3 x14_1).f0, .int .i64 (rd_T96 l0_3 x14_1).f1, .int .i64 (rd_T96 l0_3 x14_1).f2, .int .i64 0, .int .i64 0]) ?_ 3 _ rfl); refine pc_ (blk_put (cs := #[.int .i64 (rd_T96 l0_3 x14_1).f0, .int .i64 (rd_T96 l0_3 x14_1).f1, .int .i64 0, .int .i64 0, .int .i64 0]) ?_ 2 _ rfl); refine pc_ (blk_put (cs := #[.int .i64 (rd_T96 l0_3 x14_1).f0, .int .i64 0, .int .i64 0, .int .i64 0, .int .i64 0]) ?_ 1 _ rfl); refine pc_ (blk_put (cs := #[.int .i64 0, .int .i64 0, .int .i64 0, .int .i64 0, .int .i64 0]) ?_ 0 _ rfl); exact pb_ BK428.1) hb) (below_step (bh_ GE426.1 GE428.1) hb); clear BK426 BK428 HB; obtain ⟨BK426, BK428, HB⟩ := n_; (try clear hb); obtain ⟨_, _, _, _, _, _, _, _, _, _, _, _⟩ := ce6_ BK426.1; obtain ⟨_, _, _, _, _, _, _, _, _, _⟩ := ce5_ BK428.1) | (go_at_call 100; (with_reducible refine (impl_instrKind.calls k1 _ _ l0_1 (rd_T96 l0_3 x14_1).f1 t430 _ ?side1 ?side2 A9.1).mono ?_); (case side1 => exact cc_ (Kd.C_below HR0_1.1 HB.1)); (case side2 => exact HC0_1.1); rintro e w29 ⟨rfl, hb⟩; have n_ := as3_ (bl_ BK426.1 hb) (bl_ BK428.1 hb) (below_step (bh_ GE426.1 GE428.1) hb); clear BK426 BK428 HB; obtain ⟨BK426, BK428, HB⟩ := n_; (try clear hb); obtain ⟨_, _, _, _, _, _, _, _, _, _⟩ := ce5_ BK428.1; obtain ⟨_, _, _, _, _, _, _, _, _, _, _, _⟩ := ce6_ BK426.1))
         go_roundg k1
         case measure => have := HK1.1; omega
         case rel => exact ⟨(wrap64 (x14_1 + 1)), (rs_), H', ⟨by have := HK1.1; omega⟩, ⟨pb_ BK426.1⟩, ⟨bh_ GE426.1 GE428.1⟩⟩
       ·
        rw [if_neg c10] at H; have c10b0 : (t430 == 2) = false := beq_eq_false_iff_ne.mpr c10; have c10b1 : (t430 != 2) = true := bne_iff_ne.mpr c10; obtain rfl := Option.some.inj H; have p427 : 0 ≤ (x14_1 : Int) := od_; have q427 : x14_1 < (l0_3.length : Int) := od_; obtain ⟨ad427, e427, hx427_0, hx427_1, hx427_2, hx427_3, hx427_4⟩ := at_T96 HR0_3.1 x14_1 p427 q427; cases e427; have n_ := cl5_ HB.1 hx427_0 hx427_1 hx427_2 hx427_3 hx427_4; clear hx427_0 hx427_1 hx427_2 hx427_3 hx427_4; obtain ⟨hx427_0, hx427_1, hx427_2, hx427_3, hx427_4⟩ := n_; replace p427 := eq_true p427; replace q427 := eq_true q427
        go_wp2_with (first | ((with_reducible refine gate_dst (N := 4) rfl ?_); refine be_ 4 (cs := #[.int .i64 0, .int .i64 0, .int .i64 0, .int .i64 0, .int .i64 0]) (t := 96) ?_; intro gb428 hg w32 hbox hb; have n_ := bz_ hg hbox hb BK426.1 GE426.1; clear BK426 HB; obtain ⟨BK426, HB, BK428, GW428, GE428, NB426_428, NB428_426⟩ := n_; clear hb hbox hg; have hnb33 := NB428_426.1; have hnc33 := NB426_428.1; obtain ⟨_, _, _, _, _, _, _, _, _, _⟩ := ce5_ BK428.1; obtain ⟨_, _, _, _, _, _, _, _, _, _, _, _⟩ := ce6_ BK426.1) | ((with_reducible refine gate_callee (f := 99) rfl ?_); refine goesL_ (some 22) rfl rfl Try.func99 kr_ rfl #[.slice A0_0 l0_0.length c0_0, .int .i64 (rd_T96 l0_3 x14_1).f0] rfl (bc_) ?_; (with_reducible refine (impl_accountKind.calls k1 _ _ l0_0 (rd_T96 l0_3 x14_1).f0 t429 _ ?side1 ?side2 A7.1).mono ?_); (case side1 => exact Kd.C_below HR0_0.1 (bh_ GE426.1 GE428.1)); (case side2 => exact HC0_0.1); rintro e w36 ⟨rfl, hb⟩; refine ⟨_, rfl, ?_⟩; have n_ := as3_ (blk_below (g := gb426) (o := .cells #[.slice A0_0 l0_0.length c0_0, .slice A0_1 l0_1.length c0_1, .slice A0_2 l0_2.length c0_2, .slice (some ad427) l0_3.length c0_3, .slice A0_4 l0_4.length c0_4, .int .i64 a0_5] 34 (0, 0)) (by refine pf_ NB426_428.1 ?_; refine pf_ NB426_428.1 ?_; refine pf_ NB426_428.1 ?_; refine pf_ NB426_428.1 ?_; refine pf_ NB426_428.1 ?_; exact pb_ BK426.1) hb) (blk_below (g := gb428) (o := .cells #[.int .i64 (rd_T96 l0_3 x14_1).f0, .int .i64 (rd_T96 l0_3 x14_1).f1, .int .i64 (rd_T96 l0_3 x14_1).f2, .int .i64 (rd_T96 l0_3 x14_1).f3, .int .i64 (rd_T96 l0_3 x14_1).f4] 96 (0, 0)) (by refine pc_ (blk_put (cs := #[.int .i64 (rd_T96 l0_3 x14_1).f0, .int .i64 (rd_T96 l0_3 x14_1).f1, .int .i64 (rd_T96 l0_3 x14_1).f2, .int .i64 (rd_T96 l0_3 x14_1).f3, .int .i64 0]) ?_ 4 _ rfl); refine pc_ (blk_put (cs := #[.int .i64 (rd_T96 l0_3 x14_1).f0, .int .i64 (rd_T96 l0_3 x14_1).f1, .int .i64 (rd_T96 l0_3 x14_1).f2, .int .i64 0, .int .i64 0]) ?_ 3 _ rfl); refine pc_ (blk_put (cs := #[.int .i64 (rd_T96 l0_3 x14_1).f0, .int .i64 (rd_T96 l0_3 x14_1).f1, .int .i64 0, .int .i64 0, .int .i64 0]) ?_ 2 _ rfl); refine pc_ (blk_put (cs := #[.int .i64 (rd_T96 l0_3 x14_1).f0, .int .i64 0, .int .i64 0, .int .i64 0, .int .i64 0]) ?_ 1 _ rfl); refine pc_ (blk_put (cs := #[.int .i64 0, .int .i64 0, .int .i64 0, .int .i64 0, .int .i64 0]) ?_ 0 _ rfl); exact pb_ BK428.1) hb) (below_step (bh_ GE426.1 GE428.1) hb); clear BK426 BK428 HB; obtain ⟨BK426, BK428, HB⟩ := n_; (try clear hb); obtain ⟨_, _, _, _, _, _, _, _, _, _, _, _⟩ := ce6_ BK426.1; obtain ⟨_, _, _, _, _, _, _, _, _, _⟩ := ce5_ BK428.1) | (go_at_call 100; (with_reducible refine (impl_instrKind.calls k1 _ _ l0_1 (rd_T96 l0_3 x14_1).f1 t430 _ ?side1 ?side2 A9.1).mono ?_); (case side1 => exact cc_ (Kd.C_below HR0_1.1 HB.1)); (case side2 => exact HC0_1.1); rintro e w39 ⟨rfl, hb⟩; have n_ := as3_ (bl_ BK426.1 hb) (bl_ BK428.1 hb) (below_step (bh_ GE426.1 GE428.1) hb); clear BK426 BK428 HB; obtain ⟨BK426, BK428, HB⟩ := n_; (try clear hb)))
        go_ret; exact ⟨er_, bh_ GE426.1 GE428.1⟩
      ·
       rw [if_neg c8] at H; have c8b0 : (t429 == 1) = false := beq_eq_false_iff_ne.mpr c8; have c8b1 : (t429 != 1) = true := bne_iff_ne.mpr c8; obtain rfl := Option.some.inj H; have p427 : 0 ≤ (x14_1 : Int) := od_; have q427 : x14_1 < (l0_3.length : Int) := od_; obtain ⟨ad427, e427, hx427_0, hx427_1, hx427_2, hx427_3, hx427_4⟩ := at_T96 HR0_3.1 x14_1 p427 q427; cases e427; have n_ := cl5_ HB.1 hx427_0 hx427_1 hx427_2 hx427_3 hx427_4; clear hx427_0 hx427_1 hx427_2 hx427_3 hx427_4; obtain ⟨hx427_0, hx427_1, hx427_2, hx427_3, hx427_4⟩ := n_; replace p427 := eq_true p427; replace q427 := eq_true q427
       go_wp2_with (first | ((with_reducible refine gate_dst (N := 4) rfl ?_); refine be_ 4 (cs := #[.int .i64 0, .int .i64 0, .int .i64 0, .int .i64 0, .int .i64 0]) (t := 96) ?_; intro gb428 hg w40 hbox hb; have n_ := bz_ hg hbox hb BK426.1 GE426.1; clear BK426 HB; obtain ⟨BK426, HB, BK428, GW428, GE428, NB426_428, NB428_426⟩ := n_; clear hb hbox hg; have hnb41 := NB428_426.1; have hnc41 := NB426_428.1; obtain ⟨_, _, _, _, _, _, _, _, _, _⟩ := ce5_ BK428.1; obtain ⟨_, _, _, _, _, _, _, _, _, _, _, _⟩ := ce6_ BK426.1) | ((with_reducible refine gate_callee (f := 99) rfl ?_); refine goesL_ (some 22) rfl rfl Try.func99 kr_ rfl #[.slice A0_0 l0_0.length c0_0, .int .i64 (rd_T96 l0_3 x14_1).f0] rfl (bc_) ?_; (with_reducible refine (impl_accountKind.calls k1 _ _ l0_0 (rd_T96 l0_3 x14_1).f0 t429 _ ?side1 ?side2 A7.1).mono ?_); (case side1 => exact Kd.C_below HR0_0.1 (bh_ GE426.1 GE428.1)); (case side2 => exact HC0_0.1); rintro e w44 ⟨rfl, hb⟩; refine ⟨_, rfl, ?_⟩; have n_ := as3_ (blk_below (g := gb426) (o := .cells #[.slice A0_0 l0_0.length c0_0, .slice A0_1 l0_1.length c0_1, .slice A0_2 l0_2.length c0_2, .slice (some ad427) l0_3.length c0_3, .slice A0_4 l0_4.length c0_4, .int .i64 a0_5] 34 (0, 0)) (by refine pf_ NB426_428.1 ?_; refine pf_ NB426_428.1 ?_; refine pf_ NB426_428.1 ?_; refine pf_ NB426_428.1 ?_; refine pf_ NB426_428.1 ?_; exact pb_ BK426.1) hb) (blk_below (g := gb428) (o := .cells #[.int .i64 (rd_T96 l0_3 x14_1).f0, .int .i64 (rd_T96 l0_3 x14_1).f1, .int .i64 (rd_T96 l0_3 x14_1).f2, .int .i64 (rd_T96 l0_3 x14_1).f3, .int .i64 (rd_T96 l0_3 x14_1).f4] 96 (0, 0)) (by refine pc_ (blk_put (cs := #[.int .i64 (rd_T96 l0_3 x14_1).f0, .int .i64 (rd_T96 l0_3 x14_1).f1, .int .i64 (rd_T96 l0_3 x14_1).f2, .int .i64 (rd_T96 l0_3 x14_1).f3, .int .i64 0]) ?_ 4 _ rfl); refine pc_ (blk_put (cs := #[.int .i64 (rd_T96 l0_3 x14_1).f0, .int .i64 (rd_T96 l0_3 x14_1).f1, .int .i64 (rd_T96 l0_3 x14_1).f2, .int .i64 0, .int .i64 0]) ?_ 3 _ rfl); refine pc_ (blk_put (cs := #[.int .i64 (rd_T96 l0_3 x14_1).f0, .int .i64 (rd_T96 l0_3 x14_1).f1, .int .i64 0, .int .i64 0, .int .i64 0]) ?_ 2 _ rfl); refine pc_ (blk_put (cs := #[.int .i64 (rd_T96 l0_3 x14_1).f0, .int .i64 0, .int .i64 0, .int .i64 0, .int .i64 0]) ?_ 1 _ rfl); refine pc_ (blk_put (cs := #[.int .i64 0, .int .i64 0, .int .i64 0, .int .i64 0, .int .i64 0]) ?_ 0 _ rfl); exact pb_ BK428.1) hb) (below_step (bh_ GE426.1 GE428.1) hb); clear BK426 BK428 HB; obtain ⟨BK426, BK428, HB⟩ := n_; (try clear hb)))
       go_ret; exact ⟨er_, bh_ GE426.1 GE428.1⟩
     ·
      rw [if_neg c6] at H; exact absurd H (by simp)
    ·
     rw [if_neg c5] at H; exact absurd H (by simp)
   ·
    rw [if_neg c4] at H; have c4b0 : decide (x14_1 < (l0_3.length : Int)) = false := decide_eq_false c4; clear c4; have H' := Aside0.mk H; clear H; obtain ⟨_, _, _, _, _, _, _, _, _, _, _, _⟩ := ce6_ BK426.1; go_wp2; go_loopg [43] k1 (fun kq v43 w' => ∃ (x43_2 : Int), v43 = .int .i64 x43_2 ∧ Aside0 (impl_lotsRight.l1 kq l0_0 (l0_0.length : Int) x43_2 l0_0 l0_1 l0_2 l0_3 l0_4 a0_5 = some r) ∧ Aside0 (kq ≤ k1) ∧ Aside0 (w'.heap[gb426]? = some (.cells #[(.slice A0_0 l0_0.length c0_0), (.slice A0_1 l0_1.length c0_1), (.slice A0_2 l0_2.length c0_2), (.slice A0_3 l0_3.length c0_3), (.slice A0_4 l0_4.length c0_4), .int .i64 a0_5] 34 (0, 0))) ∧ Aside0 (Below w.heap.size w w'))
    case atStart => exact ⟨(0), (rs_), H', ⟨Nat.le_refl _⟩, ⟨pb_ BK426.1⟩, ⟨bg_ GE426.1⟩⟩
    case round =>
     clear H'; (try clear c1); (try clear c2); (try clear p2); (try clear c3); (try clear c4b0); (try clear p4); (try clear q4); (try clear hx4); (try clear c5b0); (try clear c6b0); (try clear p6); (try clear c7); (try clear c8b0); (try clear c8b1); (try clear c9); (try clear c10b0); (try clear c10b1); (try clear c11b0); (try clear c13); (try clear c23); (try clear c33); (try clear c41); (try clear p42); (try clear q42); (try clear hx42); (try clear hx427_0); (try clear hx427_1); (try clear hx427_2); (try clear hx427_3); (try clear hx427_4); (try clear p2); (try clear p427); (try clear q427); obtain ⟨x43_2, rfl, HA, HK2, BK426, HB⟩ := hrel
     cases gk with
     | zero => exact absurd HA.1 (by simp [impl_lotsRight.l1])
     | succ k2 =>
      have H := HA.1; clear HA; simp only [impl_lotsRight.l1] at H
      by_cases c46 : x43_2 < (l0_0.length : Int)
      ·
       rw [if_pos c46] at H; have c46b0 : decide (x43_2 < (l0_0.length : Int)) = true := decide_eq_true c46; clear c46
       by_cases c47 : 0 ≤ x43_2
       ·
        rw [if_pos c47] at H; have c47b0 : decide (0 ≤ x43_2) = true := decide_eq_true c47; clear c47
        by_cases c48 : x43_2 < (l0_0.length : Int)
        ·
         rw [if_pos c48] at H; have c48b0 : decide (x43_2 < (l0_0.length : Int)) = true := decide_eq_true c48; clear c48; have H' := Aside0.mk H; clear H; have p431 : 0 ≤ (x43_2 : Int) := od_; have q431 : x43_2 < (l0_0.length : Int) := od_; obtain ⟨ad431, e431, hx431_0, hx431_1⟩ := at_T88 HR0_0.1 x43_2 p431 q431; cases e431; have n_ := cl2_ HB.1 hx431_0 hx431_1; clear hx431_0 hx431_1; obtain ⟨hx431_0, hx431_1⟩ := n_; replace p431 := eq_true p431; replace q431 := eq_true q431; go_wp2_with (first | ((with_reducible refine gate_dst (N := 6) rfl ?_); refine be_ 6 (cs := #[.int .i64 0, .int .i64 0]) (t := 88) ?_; intro gb432 hg w49 hbox hb; have n_ := bz_ hg hbox hb BK426.1 GE426.1; clear BK426 HB; obtain ⟨BK426, HB, BK432, GW432, GE432, NB426_432, NB432_426⟩ := n_; clear hb hbox hg; have hnb50 := NB432_426.1; have hnc50 := NB426_432.1; obtain ⟨_, _, _, _⟩ := ce2_ BK432.1; obtain ⟨_, _, _, _, _, _, _, _, _, _, _, _⟩ := ce6_ BK426.1))
         go_loopg [50] k2 (fun kq v50 w' => ∃ (x50_3 : Int), v50 = .int .i64 x50_3 ∧ Aside0 (impl_lotsRight.l2 kq l0_0 (l0_0.length : Int) x43_2 l0_1 (l0_1.length : Int) x50_3 l0_0 l0_1 l0_2 l0_3 l0_4 a0_5 (rd_T88 l0_0 x43_2).f0 (rd_T88 l0_0 x43_2).f1 = some r) ∧ Aside0 (kq ≤ k2) ∧ Aside0 (w'.heap[gb426]? = some (.cells #[(.slice (some ad431) l0_0.length c0_0), (.slice A0_1 l0_1.length c0_1), (.slice A0_2 l0_2.length c0_2), (.slice A0_3 l0_3.length c0_3), (.slice A0_4 l0_4.length c0_4), .int .i64 a0_5] 34 (0, 0))) ∧ Aside0 (w'.heap[gb432]? = some (.cells #[.int .i64 (rd_T88 l0_0 x43_2).f0, .int .i64 (rd_T88 l0_0 x43_2).f1] 88 (0, 0))) ∧ Aside0 (Below w.heap.size w w'))
         case atStart => exact ⟨(0), (rs_), H', ⟨Nat.le_refl _⟩, ⟨by refine pf_ NB426_432.1 ?_; refine pf_ NB426_432.1 ?_; exact pb_ BK426.1⟩, ⟨by refine pc_ (blk_put (cs := #[.int .i64 (rd_T88 l0_0 x43_2).f0, .int .i64 0]) ?_ 1 _ rfl); refine pc_ (blk_put (cs := #[.int .i64 0, .int .i64 0]) ?_ 0 _ rfl); exact pb_ BK432.1⟩, ⟨bh_ GE426.1 GE432.1⟩⟩
         case round =>
          clear H'; (try clear c1); (try clear c2); (try clear p2); (try clear c3); (try clear c4b0); (try clear p4); (try clear q4); (try clear hx4); (try clear c5b0); (try clear c6b0); (try clear p6); (try clear c7); (try clear c8b0); (try clear c8b1); (try clear c9); (try clear c10b0); (try clear c10b1); (try clear c11b0); (try clear c13); (try clear c23); (try clear c33); (try clear c41); (try clear p42); (try clear q42); (try clear hx42); (try clear p43); (try clear q43); (try clear hx43); (try clear c46b0); (try clear c47b0); (try clear c48b0); (try clear c50); (try clear hx427_0); (try clear hx427_1); (try clear hx427_2); (try clear hx427_3); (try clear hx427_4); (try clear hx431_0); (try clear hx431_1); (try clear p2); (try clear p4); (try clear p42); (try clear p427); (try clear p431); (try clear p6); (try clear q4); (try clear q42); (try clear q427); (try clear q431); obtain ⟨x50_3, rfl, HA, HK3, BK426, BK432, HB⟩ := hrel
          cases gk with
          | zero => exact absurd HA.1 (by simp [impl_lotsRight.l2])
          | succ k3 =>
           have H := HA.1; clear HA; simp only [impl_lotsRight.l2] at H
           by_cases c53 : x50_3 < (l0_1.length : Int)
           ·
            rw [if_pos c53] at H; have c53b0 : decide (x50_3 < (l0_1.length : Int)) = true := decide_eq_true c53; clear c53
            by_cases c54 : 0 ≤ x50_3
            ·
             rw [if_pos c54] at H; have c54b0 : decide (0 ≤ x50_3) = true := decide_eq_true c54; clear c54
             by_cases c55 : x50_3 < (l0_1.length : Int)
             ·
              rw [if_pos c55] at H; have c55b0 : decide (x50_3 < (l0_1.length : Int)) = true := decide_eq_true c55; clear c55; have HC56 := Aside0.mk H; clear H; have p433 : 0 ≤ (x50_3 : Int) := od_; have q433 : x50_3 < (l0_1.length : Int) := od_; obtain ⟨ad433, e433, hx433_0, hx433_1⟩ := at_T90 HR0_1.1 x50_3 p433 q433; cases e433; have n_ := cl2_ HB.1 hx433_0 hx433_1; clear hx433_0 hx433_1; obtain ⟨hx433_0, hx433_1⟩ := n_; replace p433 := eq_true p433; replace q433 := eq_true q433; go_upto_region 13 with (first | ((with_reducible refine gate_dst (N := 8) rfl ?_); refine be_ 8 (cs := #[.int .i64 0, .int .i64 0]) (t := 90) ?_; intro gb434 hg w57 hbox hb; have n_ := as10_ (bl_ BK426.1 hb) (bl_ BK432.1 hb) (below_step (bh_ GE426.1 GE432.1) hb) (hbox) ((by rw [hg]; exact (below_size (bh_ GE426.1 GE432.1)) : w.heap.size ≤ gb434)) ((by rw [hg]; exact (below_size (bh_ GE426.1 GE432.1)) : w.heap.size ≤ gb434)) ((nl_ hg BK426.1)) ((ng_ hg BK426.1)) ((nl_ hg BK432.1)) ((ng_ hg BK432.1)); clear BK426 BK432 HB; obtain ⟨BK426, BK432, HB, BK434, GW434, GE434, NB426_434, NB434_426, NB432_434, NB434_432⟩ := n_; clear hb hbox hg; have hnb58 := NB434_426.1; have hnc58 := NB426_434.1; have hnb59 := NB434_432.1; have hnc59 := NB432_434.1; obtain ⟨_, _, _, _⟩ := ce2_ BK434.1))
              (try simp only [Act.put, List.setIfInBounds_toArray, List.set_cons_zero, List.set_cons_succ])
              go_cut [61] (fun v61 wc => ∃ (kq : Nat) (x61_55 : Bool), v61 = .bool x61_55 ∧ Aside0 (impl_lotsRight.j3 kq l0_0 (l0_0.length : Int) x43_2 l0_1 (l0_1.length : Int) x50_3 x61_55 l0_0 l0_1 l0_2 l0_3 l0_4 a0_5 (rd_T88 l0_0 x43_2).f0 (rd_T88 l0_0 x43_2).f1 (rd_T90 l0_1 x50_3).f0 (rd_T90 l0_1 x50_3).f1 = some r) ∧ Aside0 (kq ≤ k3) ∧ Aside0 (wc.heap[gb426]? = some (.cells #[(.slice (some ad431) l0_0.length c0_0), (.slice (some ad433) l0_1.length c0_1), (.slice A0_2 l0_2.length c0_2), (.slice A0_3 l0_3.length c0_3), (.slice A0_4 l0_4.length c0_4), .int .i64 a0_5] 34 (0, 0))) ∧ Aside0 (wc.heap[gb432]? = some (.cells #[.int .i64 (rd_T88 l0_0 x43_2).f0, .int .i64 (rd_T88 l0_0 x43_2).f1] 88 (0, 0))) ∧ Aside0 (wc.heap[gb434]? = some (.cells #[.int .i64 (rd_T90 l0_1 x50_3).f0, .int .i64 (rd_T90 l0_1 x50_3).f1] 90 (0, 0))) ∧ Aside0 (Below w.heap.size w wc))
              case first =>
               have H := HC56.1; clear HC56
               by_cases c61 : (rd_T88 l0_0 x43_2).f1 = 1
               ·
                rw [if_pos c61] at H; have c61b0 : ((rd_T88 l0_0 x43_2).f1 == 1) = true := beq_iff_eq.mpr c61; have c61b1 : ((rd_T88 l0_0 x43_2).f1 != 1) = false := bne_eq_false_iff_eq.mpr c61; clear c61; (first | rw [c61b0] | (simp only [i64_w, i32_w]; rw [c61b0]) | skip)
                have H' := Aside0.mk H; clear H; have hnb62 := NB432_426.1; have hnc62 := NB426_432.1; have hnb63 := NB432_434.1; have hnc63 := NB434_432.1; obtain ⟨_, _, _, _⟩ := ce2_ BK432.1; have hnb65 := NB434_426.1; have hnc65 := NB426_434.1; obtain ⟨_, _, _, _⟩ := ce2_ BK434.1; go_wp2; go_meet
                case rel => exact ⟨_, (((rd_T90 l0_1 x50_3).f1 != 2)), (rs_), H', ⟨by have := HK1.1; have := HK2.1; have := HK3.1; first | omega | exact Nat.le_refl _⟩, ⟨by refine pf_ NB426_434.1 ?_; refine pf_ NB426_434.1 ?_; exact pb_ BK426.1⟩, ⟨by refine pf_ NB432_434.1 ?_; refine pf_ NB432_434.1 ?_; exact pb_ BK432.1⟩, ⟨by refine pc_ (blk_put (cs := #[.int .i64 (rd_T90 l0_1 x50_3).f0, .int .i64 0]) ?_ 1 _ rfl); refine pc_ (blk_put (cs := #[.int .i64 0, .int .i64 0]) ?_ 0 _ rfl); exact pb_ BK434.1⟩, ⟨by repeat (first | (with_reducible first | exact HB.1 | apply below_alloc | apply pw_below_drewN | apply below_drew1 | refine below_set ?_ GE426.1 | refine below_set ?_ GE432.1 | refine below_set ?_ GE434.1) | exact HB.1)⟩⟩
               ·
                rw [if_neg c61] at H; have c61b0 : ((rd_T88 l0_0 x43_2).f1 == 1) = false := beq_eq_false_iff_ne.mpr c61; have c61b1 : ((rd_T88 l0_0 x43_2).f1 != 1) = true := bne_iff_ne.mpr c61; (first | rw [c61b0] | (simp only [i64_w, i32_w]; rw [c61b0]) | skip)
                have H' := Aside0.mk H; clear H; have hnb67 := NB432_426.1; have hnc67 := NB426_432.1; have hnb68 := NB432_434.1; have hnc68 := NB434_432.1; obtain ⟨_, _, _, _⟩ := ce2_ BK432.1; go_wp2; go_meet
                case rel => exact ⟨_, (true), (rs_), H', ⟨by have := HK1.1; have := HK2.1; have := HK3.1; first | omega | exact Nat.le_refl _⟩, ⟨by refine pf_ NB426_434.1 ?_; refine pf_ NB426_434.1 ?_; exact pb_ BK426.1⟩, ⟨by refine pf_ NB432_434.1 ?_; refine pf_ NB432_434.1 ?_; exact pb_ BK432.1⟩, ⟨by refine pc_ (blk_put (cs := #[.int .i64 (rd_T90 l0_1 x50_3).f0, .int .i64 0]) ?_ 1 _ rfl); refine pc_ (blk_put (cs := #[.int .i64 0, .int .i64 0]) ?_ 0 _ rfl); exact pb_ BK434.1⟩, ⟨by repeat (first | (with_reducible first | exact HB.1 | apply below_alloc | apply pw_below_drewN | apply below_drew1 | refine below_set ?_ GE426.1 | refine below_set ?_ GE432.1 | refine below_set ?_ GE434.1) | exact HB.1)⟩⟩
              case rest =>
               clear HC56; (try clear c1); (try clear c2); (try clear p2); (try clear c3); (try clear c4b0); (try clear p4); (try clear q4); (try clear hx4); (try clear c5b0); (try clear c6b0); (try clear p6); (try clear c7); (try clear c8b0); (try clear c8b1); (try clear c9); (try clear c10b0); (try clear c10b1); (try clear c11b0); (try clear c13); (try clear c23); (try clear c33); (try clear c41); (try clear p42); (try clear q42); (try clear hx42); (try clear p43); (try clear q43); (try clear hx43); (try clear c46b0); (try clear c47b0); (try clear c48b0); (try clear c50); (try clear c53b0); (try clear c54b0); (try clear c55b0); (try clear c58); (try clear c59); (try clear c61b0); (try clear c61b1); (try clear c62); (try clear c63); (try clear c65); (try clear c67); (try clear c68); (try clear hx427_0); (try clear hx427_1); (try clear hx427_2); (try clear hx427_3); (try clear hx427_4); (try clear hx431_0); (try clear hx431_1); (try clear hx433_0); (try clear hx433_1); (try clear p2); (try clear p4); (try clear p42); (try clear p427); (try clear p43); (try clear p431); (try clear p433); (try clear p6); (try clear q4); (try clear q42); (try clear q427); (try clear q43); (try clear q431); (try clear q433); obtain ⟨kq, x61_55, rfl, HA, HJ55, BK426, BK432, BK434, HB⟩ := hcut
               cases kq with
               | zero => exact absurd HA.1 (by simp [impl_lotsRight.j3])
               | succ kj55 =>
                have H := HA.1; clear HA; simp only [impl_lotsRight.j3] at H
                by_cases c70 : x61_55 = true
                ·
                 subst c70; have H' := Aside0.mk (Eq.trans (if_pos rfl).symm H); clear H; go_wp2; go_roundg kj55
                 case measure => have := HK1.1; have := HK2.1; have := HK3.1; have := HJ55.1; omega
                 case rel => exact ⟨(wrap64 (x50_3 + 1)), (rs_), H', ⟨by have := HK1.1; have := HK2.1; have := HK3.1; have := HJ55.1; omega⟩, ⟨pb_ BK426.1⟩, ⟨pb_ BK432.1⟩, ⟨by repeat (first | (with_reducible first | exact HB.1 | apply below_alloc | apply pw_below_drewN | apply below_drew1 | refine below_set ?_ GE426.1 | refine below_set ?_ GE432.1 | refine below_set ?_ GE434.1) | exact HB.1)⟩⟩
                ·
                 replace c70 := Bool.eq_false_iff.mpr c70; subst c70; replace H := Eq.trans (if_neg nf_).symm H; replace H := Option.bind_eq_some_iff.mp H; obtain ⟨t435, A710, H⟩ := H; have A71 := Aside0.mk A710; clear A710; replace H := Option.bind_eq_some_iff.mp H; obtain ⟨⟨t438, t439⟩, A720, H⟩ := H; replace H : ((impl_balOf.f kj55 l0_2 (rd_T88 l0_0 x43_2).f0 (rd_T90 l0_1 x50_3).f0).bind fun t440 => (if t438 = t440 then (impl_lotsRight.l2 kj55 l0_0 (l0_0.length : Int) x43_2 l0_1 (l0_1.length : Int) (wrap64 (x50_3 + 1)) l0_0 l0_1 l0_2 l0_3 l0_4 a0_5 (rd_T88 l0_0 x43_2).f0 (rd_T88 l0_0 x43_2).f1) else (some false))) = some r := H; have A72 := Aside0.mk A720; clear A720; replace H := Option.bind_eq_some_iff.mp H; obtain ⟨t440, A730, H⟩ := H; have A73 := Aside0.mk A730; clear A730
                 by_cases c74 : t438 = t440
                 ·
                  rw [if_pos c74] at H; have c74b0 : (t438 == t440) = true := beq_iff_eq.mpr c74; have c74b1 : (t438 != t440) = false := bne_eq_false_iff_eq.mpr c74; clear c74; have H' := Aside0.mk H; clear H; have hnb75 := NB426_432.1; have hnc75 := NB432_426.1; have hnb76 := NB426_434.1; have hnc76 := NB434_426.1; obtain ⟨_, _, _, _, _, _, _, _, _, _, _, _⟩ := ce6_ BK426.1; have hnb78 := NB432_434.1; have hnc78 := NB434_432.1; obtain ⟨_, _, _, _⟩ := ce2_ BK432.1; obtain ⟨_, _, _, _⟩ := ce2_ BK434.1
                  go_wp2_with (first | ((with_reducible refine gate_callee (f := 98) rfl ?_); refine goesL_ (some 69) rfl rfl Try.func98 kr_ rfl #[.slice A0_3 l0_3.length c0_3, .int .i64 (rd_T88 l0_0 x43_2).f0, .int .i64 (rd_T90 l0_1 x50_3).f0] rfl (bc_) ?_; (with_reducible refine (impl_lotsOf.calls _ _ l0_3 (rd_T88 l0_0 x43_2).f0 (rd_T90 l0_1 x50_3).f0 t435 _ ?side1 ?side2 A71.1).mono ?_); (case side1 => exact cc_ (Kd.C_below HR0_3.1 HB.1)); (case side2 => exact HC0_3.1); rintro e w81 ⟨v436, rfl, ho0, hb⟩; refine ⟨_, rfl, ?_⟩; have n_ := as5_ (Kd.R_lower ho0 (below_size (by repeat (first | (with_reducible first | exact HB.1 | apply below_alloc | apply pw_below_drewN | apply below_drew1 | refine below_set ?_ GE426.1 | refine below_set ?_ GE432.1 | refine below_set ?_ GE434.1) | exact HB.1)))) (bl_ BK426.1 hb) (bl_ BK432.1 hb) (bl_ BK434.1 hb) (below_step (by repeat (first | (with_reducible first | exact HB.1 | apply below_alloc | apply pw_below_drewN | apply below_drew1 | refine below_set ?_ GE426.1 | refine below_set ?_ GE432.1 | refine below_set ?_ GE434.1) | exact HB.1)) hb); clear BK426 BK432 BK434 HB; obtain ⟨HO437, BK426, BK432, BK434, HB⟩ := n_; (try clear hb); (try clear ho0); obtain ⟨Ao82, co82, eo82⟩ := Kd.R_slice HO437.1; subst eo82) | ((with_reducible refine gate_callee (f := 97) rfl ?_); refine goesL_ (some 70) rfl rfl Try.func97 kr_ rfl #[.slice Ao82 t435.length co82] rfl (bc_) ?_; (with_reducible refine (impl_sumLots.calls kj55 _ _ t435 t438 t439 _ ?side1 ?side2 A72.1).mono ?_); (case side1 => exact cc_ (Kd.R_reads' HO437.1).2.2); (case side2 => exact (Kd.R_reads' HO437.1).2.1); rintro e w83 ⟨rfl, hb⟩; refine ⟨_, rfl, ?_⟩; have n_ := as5_ (Kd.R_below (pe_ HO437.1) hb) (bl_ BK426.1 hb) (bl_ BK432.1 hb) (bl_ BK434.1 hb) (below_step (by repeat (first | (with_reducible first | exact HB.1 | apply below_alloc | apply pw_below_drewN | apply below_drew1 | refine below_set ?_ GE426.1 | refine below_set ?_ GE432.1 | refine below_set ?_ GE434.1) | exact HB.1)) hb); clear HO437 BK426 BK432 BK434 HB; obtain ⟨HO437, BK426, BK432, BK434, HB⟩ := n_; (try clear hb); obtain ⟨_, _, _, _, _, _, _, _, _, _, _, _⟩ := ce6_ BK426.1; obtain ⟨_, _, _, _⟩ := ce2_ BK432.1; obtain ⟨_, _, _, _⟩ := ce2_ BK434.1) | ((with_reducible refine gate_callee (f := 102) rfl ?_); refine goesL_ (some 80) rfl rfl Try.func102 kr_ rfl #[.slice A0_2 l0_2.length c0_2, .int .i64 (rd_T88 l0_0 x43_2).f0, .int .i64 (rd_T90 l0_1 x50_3).f0] rfl (bc_) ?_; (with_reducible refine (impl_balOf.calls kj55 _ _ l0_2 (rd_T88 l0_0 x43_2).f0 (rd_T90 l0_1 x50_3).f0 t440 _ ?side1 ?side2 A73.1).mono ?_); (case side1 => exact cc_ (Kd.C_below HR0_2.1 HB.1)); (case side2 => exact HC0_2.1); rintro e w87 ⟨rfl, hb⟩; refine ⟨_, rfl, ?_⟩; have n_ := as5_ (Kd.R_below (pe_ HO437.1) hb) (bl_ BK426.1 hb) (bl_ BK432.1 hb) (bl_ BK434.1 hb) (below_step (by repeat (first | (with_reducible first | exact HB.1 | apply below_alloc | apply pw_below_drewN | apply below_drew1 | refine below_set ?_ GE426.1 | refine below_set ?_ GE432.1 | refine below_set ?_ GE434.1) | exact HB.1)) hb); clear HO437 BK426 BK432 BK434 HB; obtain ⟨HO437, BK426, BK432, BK434, HB⟩ := n_; (try clear hb)))
                  go_roundg kj55
                  case measure => have := HK1.1; have := HK2.1; have := HK3.1; have := HJ55.1; omega
                  case rel => exact ⟨(wrap64 (x50_3 + 1)), (rs_), H', ⟨by have := HK1.1; have := HK2.1; have := HK3.1; have := HJ55.1; omega⟩, ⟨pb_ BK426.1⟩, ⟨pb_ BK432.1⟩, ⟨by repeat (first | (with_reducible first | exact HB.1 | apply below_alloc | apply pw_below_drewN | apply below_drew1 | refine below_set ?_ GE426.1 | refine below_set ?_ GE432.1 | refine below_set ?_ GE434.1) | exact HB.1)⟩⟩
                 ·
                  rw [if_neg c74] at H; have c74b0 : (t438 == t440) = false := beq_eq_false_iff_ne.mpr c74; have c74b1 : (t438 != t440) = true := bne_iff_ne.mpr c74; obtain rfl := Option.some.inj H; have hnb88 := NB426_432.1; have hnc88 := NB432_426.1; have hnb89 := NB426_434.1; have hnc89 := NB434_426.1; obtain ⟨_, _, _, _, _, _, _, _, _, _, _, _⟩ := ce6_ BK426.1; have hnb91 := NB432_434.1; have hnc91 := NB434_432.1; obtain ⟨_, _, _, _⟩ := ce2_ BK432.1; obtain ⟨_, _, _, _⟩ := ce2_ BK434.1
                  go_wp2_with (first | ((with_reducible refine gate_callee (f := 98) rfl ?_); refine goesL_ (some 69) rfl rfl Try.func98 kr_ rfl #[.slice A0_3 l0_3.length c0_3, .int .i64 (rd_T88 l0_0 x43_2).f0, .int .i64 (rd_T90 l0_1 x50_3).f0] rfl (bc_) ?_; (with_reducible refine (impl_lotsOf.calls _ _ l0_3 (rd_T88 l0_0 x43_2).f0 (rd_T90 l0_1 x50_3).f0 t435 _ ?side1 ?side2 A71.1).mono ?_); (case side1 => exact cc_ (Kd.C_below HR0_3.1 HB.1)); (case side2 => exact HC0_3.1); rintro e w94 ⟨v436, rfl, ho0, hb⟩; refine ⟨_, rfl, ?_⟩; have n_ := as5_ (Kd.R_lower ho0 (below_size (by repeat (first | (with_reducible first | exact HB.1 | apply below_alloc | apply pw_below_drewN | apply below_drew1 | refine below_set ?_ GE426.1 | refine below_set ?_ GE432.1 | refine below_set ?_ GE434.1) | exact HB.1)))) (bl_ BK426.1 hb) (bl_ BK432.1 hb) (bl_ BK434.1 hb) (below_step (by repeat (first | (with_reducible first | exact HB.1 | apply below_alloc | apply pw_below_drewN | apply below_drew1 | refine below_set ?_ GE426.1 | refine below_set ?_ GE432.1 | refine below_set ?_ GE434.1) | exact HB.1)) hb); clear BK426 BK432 BK434 HB; obtain ⟨HO437, BK426, BK432, BK434, HB⟩ := n_; (try clear hb); (try clear ho0); obtain ⟨Ao95, co95, eo95⟩ := Kd.R_slice HO437.1; subst eo95) | ((with_reducible refine gate_callee (f := 97) rfl ?_); refine goesL_ (some 70) rfl rfl Try.func97 kr_ rfl #[.slice Ao95 t435.length co95] rfl (bc_) ?_; (with_reducible refine (impl_sumLots.calls kj55 _ _ t435 t438 t439 _ ?side1 ?side2 A72.1).mono ?_); (case side1 => exact cc_ (Kd.R_reads' HO437.1).2.2); (case side2 => exact (Kd.R_reads' HO437.1).2.1); rintro e w96 ⟨rfl, hb⟩; refine ⟨_, rfl, ?_⟩; have n_ := as5_ (Kd.R_below (pe_ HO437.1) hb) (bl_ BK426.1 hb) (bl_ BK432.1 hb) (bl_ BK434.1 hb) (below_step (by repeat (first | (with_reducible first | exact HB.1 | apply below_alloc | apply pw_below_drewN | apply below_drew1 | refine below_set ?_ GE426.1 | refine below_set ?_ GE432.1 | refine below_set ?_ GE434.1) | exact HB.1)) hb); clear HO437 BK426 BK432 BK434 HB; obtain ⟨HO437, BK426, BK432, BK434, HB⟩ := n_; (try clear hb); obtain ⟨_, _, _, _, _, _, _, _, _, _, _, _⟩ := ce6_ BK426.1; obtain ⟨_, _, _, _⟩ := ce2_ BK432.1; obtain ⟨_, _, _, _⟩ := ce2_ BK434.1) | ((with_reducible refine gate_callee (f := 102) rfl ?_); refine goesL_ (some 80) rfl rfl Try.func102 kr_ rfl #[.slice A0_2 l0_2.length c0_2, .int .i64 (rd_T88 l0_0 x43_2).f0, .int .i64 (rd_T90 l0_1 x50_3).f0] rfl (bc_) ?_; (with_reducible refine (impl_balOf.calls kj55 _ _ l0_2 (rd_T88 l0_0 x43_2).f0 (rd_T90 l0_1 x50_3).f0 t440 _ ?side1 ?side2 A73.1).mono ?_); (case side1 => exact cc_ (Kd.C_below HR0_2.1 HB.1)); (case side2 => exact HC0_2.1); rintro e w100 ⟨rfl, hb⟩; refine ⟨_, rfl, ?_⟩; have n_ := as5_ (Kd.R_below (pe_ HO437.1) hb) (bl_ BK426.1 hb) (bl_ BK432.1 hb) (bl_ BK434.1 hb) (below_step (by repeat (first | (with_reducible first | exact HB.1 | apply below_alloc | apply pw_below_drewN | apply below_drew1 | refine below_set ?_ GE426.1 | refine below_set ?_ GE432.1 | refine below_set ?_ GE434.1) | exact HB.1)) hb); clear HO437 BK426 BK432 BK434 HB; obtain ⟨HO437, BK426, BK432, BK434, HB⟩ := n_; (try clear hb)))
                  go_ret; exact ⟨er_, by repeat (first | (with_reducible first | exact HB.1 | apply below_alloc | apply pw_below_drewN | apply below_drew1 | refine below_set ?_ GE426.1 | refine below_set ?_ GE432.1 | refine below_set ?_ GE434.1) | exact HB.1)⟩
             ·
              rw [if_neg c55] at H; exact absurd H (by simp)
            ·
             rw [if_neg c54] at H; exact absurd H (by simp)
           ·
            rw [if_neg c53] at H; have c53b0 : decide (x50_3 < (l0_1.length : Int)) = false := decide_eq_false c53; clear c53; have H' := Aside0.mk H; clear H; go_wp2; go_roundg k3
            case measure => have := HK1.1; have := HK2.1; have := HK3.1; omega
            case rel => exact ⟨(wrap64 (x43_2 + 1)), (rs_), H', ⟨by have := HK1.1; have := HK2.1; have := HK3.1; omega⟩, ⟨pb_ BK426.1⟩, ⟨bh_ GE426.1 GE432.1⟩⟩
        ·
         rw [if_neg c48] at H; exact absurd H (by simp)
       ·
        rw [if_neg c47] at H; exact absurd H (by simp)
      ·
       rw [if_neg c46] at H; have c46b0 : decide (x43_2 < (l0_0.length : Int)) = false := decide_eq_false c46; clear c46; obtain rfl := Option.some.inj H; go_wp2; go_ret; exact ⟨er_, bg_ GE426.1⟩
theorem IndexFunc_st50.calls (A0 : Option Addr) (c0 : Nat) (l0 : List (S50)) (fc : FuncId) (caps : Array Value) (p : S50 → Bool) (w : World) (hr0 : Kd.C k50 w A0 l0.length l0) (hc0 : l0.length ≤ c0) (hp : X0.FnB Try.prog fc caps w (fun x => .agg #[.int .i64 x.f0, .int .i64 x.f1, .int .i64 x.f2, .int .i64 x.f3, .int .i64 x.f4, .int .i64 x.f5, .int .i64 x.f6, .int .i64 x.f7]) p) :
 Calls Try.prog 105 #[.slice A0 l0.length c0, .func (.func fc) #[] caps] w fun e w' => e = .returned (.int .i64 (X0.idx p l0)) ∧ Below w.heap.size w w' := by
 obtain ⟨fn, hf, hn, hb, hcall⟩ := hp; have HR0 := Aside0.mk hr0; have HC0 := Aside0.mk hc0; have HF := Aside0.mk hf; have HN := Aside0.mk hn; have HBo := Aside0.mk hb; have HP := Aside0.mk hcall; have HM := Aside0.mk (Kd.C_max hr0); clear hr0 hc0 hf hn hb hcall; have HB := Aside0.mk (Below.refl w.heap.size w); have hu50 := Try.underlying50; go_enter Try.func105, Try.ntmps105; go_wp2; go_loopg [8] l0.length (fun kq v8 w' => ∃ (x : Int), v8 = .int .i64 x ∧ Aside0 (0 ≤ x ∧ x ≤ l0.length ∧ kq = (l0.length - x).toNat ∧ ∀ j : Nat, j < x.toNat → p (l0.getD j z50) = false) ∧ Aside0 (Below w.heap.size w w'))
 case atStart => exact ⟨0, rfl, ⟨Int.le_refl _, by omega, by omega, fun j hj => by omega⟩, ⟨HB.1⟩⟩
 case round =>
  obtain ⟨x, rfl, HA, HB⟩ := hrel
  by_cases c2 : x < (l0.length : Int)
  ·
   have p1 : 0 ≤ x := HA.1.1; obtain ⟨ad, e, hx_0, hx_1, hx_2, hx_3, hx_4, hx_5, hx_6, hx_7⟩ := at_T50 HR0.1 x p1 c2; cases e; have n_ := cl8_ HB.1 hx_0 hx_1 hx_2 hx_3 hx_4 hx_5 hx_6 hx_7; clear hx_0 hx_1 hx_2 hx_3 hx_4 hx_5 hx_6 hx_7; obtain ⟨hx_0, hx_1, hx_2, hx_3, hx_4, hx_5, hx_6, hx_7⟩ := n_; have c2b0 : decide (x < (l0.length : Int)) = true := decide_eq_true c2; have C2 := Aside0.mk c2; replace p1 := eq_true p1; have q1 := eq_true c2; clear c2
   cases hpx : p (rd_T50 l0 x) with
   | true =>
    have HX := Aside0.mk hpx; clear hpx; go_wp2_with (first | ((with_reducible refine gate_dst (N := 16) rfl ?_); refine X0.goesV_ (some 16) rfl rfl caps HF.1 HN.1 HBo.1 #[.agg #[.int .i64 (rd_T50 l0 x).f0, .int .i64 (rd_T50 l0 x).f1, .int .i64 (rd_T50 l0 x).f2, .int .i64 (rd_T50 l0 x).f3, .int .i64 (rd_T50 l0 x).f4, .int .i64 (rd_T50 l0 x).f5, .int .i64 (rd_T50 l0 x).f6, .int .i64 (rd_T50 l0 x).f7]] rfl rfl (by (try simp only [List.map_toArray, List.map_cons, List.map_nil]); first | done | rfl) ?_; refine (HP.1 (rd_T50 l0 x) _ HB.1).mono ?_; rintro e w6 ⟨rfl, hb6⟩; refine ⟨_, rfl, ?_⟩; rw [HX.1]; replace HB := Aside0.mk (below_step HB.1 hb6); clear hb6))
    go_ret
    exact ⟨by
     have := HA.1; have h2 := C2.1; have e1 : rd_T50 l0 x = l0.getD x.toNat z50 := rfl; have h3 := HX.1; rw [e1] at h3; rw [X0.idx_found p z50 l0 x.toNat (by omega) this.2.2.2 h3, Int.toNat_of_nonneg this.1]
     rfl, HB.1⟩
   | false =>
    have HX := Aside0.mk hpx; clear hpx; go_wp2_with (first | ((with_reducible refine gate_dst (N := 16) rfl ?_); refine X0.goesV_ (some 16) rfl rfl caps HF.1 HN.1 HBo.1 #[.agg #[.int .i64 (rd_T50 l0 x).f0, .int .i64 (rd_T50 l0 x).f1, .int .i64 (rd_T50 l0 x).f2, .int .i64 (rd_T50 l0 x).f3, .int .i64 (rd_T50 l0 x).f4, .int .i64 (rd_T50 l0 x).f5, .int .i64 (rd_T50 l0 x).f6, .int .i64 (rd_T50 l0 x).f7]] rfl rfl (by (try simp only [List.map_toArray, List.map_cons, List.map_nil]); first | done | rfl) ?_; refine (HP.1 (rd_T50 l0 x) _ HB.1).mono ?_; rintro e w6 ⟨rfl, hb6⟩; refine ⟨_, rfl, ?_⟩; rw [HX.1]; replace HB := Aside0.mk (below_step HB.1 hb6); clear hb6))
    go_roundg (l0.length - (x + 1)).toNat
    case measure => have := HA.1; have := C2.1; omega
    case rel =>
     have h1 := HA.1; have h2 := C2.1; have h4 := HM.1; refine ⟨wrap64 (x + 1), (rs_), ⟨?_⟩, ⟨HB.1⟩⟩
     have hw : wrap64 (x + 1) = x + 1 := by unfold wrap64; omega
     rw [hw]
     refine ⟨by omega, by omega, rfl, fun j hj => ?_⟩
     by_cases hj2 : j < x.toNat
     ·
      exact h1.2.2.2 j hj2
     ·
      obtain rfl : j = x.toNat := by omega
      exact HX.1
  ·
   have c2b0 : decide (x < (l0.length : Int)) = false := decide_eq_false c2; have C2 := Aside0.mk c2; clear c2; go_wp2; go_ret
   exact ⟨by
    have := HA.1; have h2 := C2.1; rw [X0.idx_none p z50 l0 fun j hj => this.2.2.2 j (by omega)]
    rfl, HB.1⟩
theorem ContainsFunc_st50.calls (A0 : Option Addr) (c0 : Nat) (l0 : List (S50)) (fc : FuncId) (caps : Array Value) (p : S50 → Bool) (w : World) (hr0 : Kd.C k50 w A0 l0.length l0) (hc0 : l0.length ≤ c0) (hp : X0.FnB Try.prog fc caps w (fun x => .agg #[.int .i64 x.f0, .int .i64 x.f1, .int .i64 x.f2, .int .i64 x.f3, .int .i64 x.f4, .int .i64 x.f5, .int .i64 x.f6, .int .i64 x.f7]) p) :
 Calls Try.prog 103 #[.slice A0 l0.length c0, .func (.func fc) #[] caps] w fun e w' => e = .returned (.bool (l0.any p)) ∧ Below w.heap.size w w' := by
 have HI := Aside0.mk (IndexFunc_st50.calls A0 c0 l0 fc caps p w hr0 hc0 hp); clear hr0 hc0 hp; go_enter Try.func103, Try.ntmps103; go_wp2_with (first | (go_at_call 105; refine HI.1.mono ?_; rintro e w6 ⟨rfl, hb6⟩; have HB := Aside0.mk hb6; clear hb6))
 go_ret
 exact ⟨by
  rw [← X0.idx_any p l0]
  rfl, HB.1⟩
def impl_tradesRight.ak (l : List (S88)) (a : Int) : Int := match l with
 | [] => 0
 | x :: xs => if x.f0 = a then x.f1 else impl_tradesRight.ak xs a
theorem impl_tradesRight.ak_go (l : List (S88)) (a : Int) (hl : l.length < 1048577) : ∀ (n i : Nat), l.length - i = n → i ≤ l.length → impl_accountKind.l0 (n + 1) a l (l.length : Int) (i : Int) = some (impl_tradesRight.ak (l.drop i) a)
 | 0, i, hn, hi => by
  obtain rfl : i = l.length := by omega
  rw [impl_accountKind.l0, if_neg (by omega), List.drop_length]
  rfl
 | n + 1, i, hn, hi => by
  have h1 : i < l.length := by omega
  have hw : wrap64 ((i : Int) + 1) = ((i + 1 : Nat) : Int) := by
   unfold wrap64
   omega
  have e : rd_T88 l (i : Int) = l[i] := by
   unfold rd_T88
   rw [Int.toNat_natCast, List.getD_eq_getElem?_getD, List.getElem?_eq_getElem h1]
   rfl
  rw [impl_accountKind.l0, if_pos (by omega), if_pos (by omega), if_pos (by omega), hw, impl_tradesRight.ak_go l a hl n (i + 1) (by omega) (by omega), List.drop_eq_getElem_cons h1, e, impl_tradesRight.ak]
  by_cases h : l[i].f0 = a
  ·
   rw [if_pos h, if_pos h]
  ·
   rw [if_neg h, if_neg h]
theorem impl_tradesRight.ak_ (l : List (S88)) (a : Int) (hl : l.length < 1048577) : impl_accountKind.f (l.length + 1) l a = some (impl_tradesRight.ak l a) := impl_tradesRight.ak_go l a hl l.length 0 (by omega) (by omega)
def impl_tradesRight.ik (l : List (S90)) (a : Int) : Int := match l with
 | [] => 0
 | x :: xs => if x.f0 = a then x.f1 else impl_tradesRight.ik xs a
theorem impl_tradesRight.ik_go (l : List (S90)) (a : Int) (hl : l.length < 1048577) : ∀ (n i : Nat), l.length - i = n → i ≤ l.length → impl_instrKind.l0 (n + 1) a l (l.length : Int) (i : Int) = some (impl_tradesRight.ik (l.drop i) a)
 | 0, i, hn, hi => by
  obtain rfl : i = l.length := by omega
  rw [impl_instrKind.l0, if_neg (by omega), List.drop_length]
  rfl
 | n + 1, i, hn, hi => by
  have h1 : i < l.length := by omega
  have hw : wrap64 ((i : Int) + 1) = ((i + 1 : Nat) : Int) := by
   unfold wrap64
   omega
  have e : rd_T90 l (i : Int) = l[i] := by
   unfold rd_T90
   rw [Int.toNat_natCast, List.getD_eq_getElem?_getD, List.getElem?_eq_getElem h1]
   rfl
  rw [impl_instrKind.l0, if_pos (by omega), if_pos (by omega), if_pos (by omega), hw, impl_tradesRight.ik_go l a hl n (i + 1) (by omega) (by omega), List.drop_eq_getElem_cons h1, e, impl_tradesRight.ik]
  by_cases h : l[i].f0 = a
  ·
   rw [if_pos h, if_pos h]
  ·
   rw [if_neg h, if_neg h]
theorem impl_tradesRight.ik_ (l : List (S90)) (a : Int) (hl : l.length < 1048577) : impl_instrKind.f (l.length + 1) l a = some (impl_tradesRight.ik l a) := impl_tradesRight.ik_go l a hl l.length 0 (by omega) (by omega)
def impl_tradesRight.bad (l0 : List (S88)) (l1 : List (S90)) (x : S50) : Bool := (impl_tradesRight.ak l0 x.f1 != 1) || (impl_tradesRight.ak l0 x.f2 != 1) || (impl_tradesRight.ik l1 x.f3 != 2) || (impl_tradesRight.ik l1 x.f5 != 1)
def impl_tradesRight.f (l0_0 : List (S88)) (l0_1 : List (S90)) (_l0_2 : List (S93)) (_l0_3 : List (S96)) (l0_4 : List (S50)) (_a0_5 : Int) : Option Bool := if l0_0.length < 1048577 ∧ l0_1.length < 1048577 then some (!(l0_4.any (impl_tradesRight.bad l0_0 l0_1))) else none
theorem impl_tradesRight.clo (B : Nat) (A0 : Option Addr) (c0 : Nat) (l0 : List (S88)) (A1 : Option Addr) (c1 : Nat) (l1 : List (S90)) (x : S50) (W : World) (h0 : W.cell? ⟨B, 0, none⟩ = some (.slice A0 l0.length c0)) (h1 : W.cell? ⟨B, 1, none⟩ = some (.slice A1 l1.length c1)) (hC0 : Kd.C k88 W A0 l0.length l0) (hC1 : Kd.C k90 W A1 l1.length l1) (hc0 : l0.length ≤ c0) (hc1 : l1.length ≤ c1) (hl0 : l0.length < 1048577) (hl1 : l1.length < 1048577) :
 Calls Try.prog 104 #[.agg #[.int .i64 x.f0, .int .i64 x.f1, .int .i64 x.f2, .int .i64 x.f3, .int .i64 x.f4, .int .i64 x.f5, .int .i64 x.f6, .int .i64 x.f7], .pointer (some ⟨B, 0, none⟩)] W fun e W' => e = .returned (.bool (impl_tradesRight.bad l0 l1 x)) ∧ Below W.heap.size W W' := by
 have HB := Aside0.mk (Below.refl W.heap.size W); have G0 := Aside0.mk h0; have G1 := Aside0.mk h1; have HO : Aside0 (impl_tradesRight.bad l0 l1 x = ((impl_tradesRight.ak l0 x.f1 != 1) || (impl_tradesRight.ak l0 x.f2 != 1) || (impl_tradesRight.ik l1 x.f3 != 2) || (impl_tradesRight.ik l1 x.f5 != 1))) := ⟨rfl⟩; have HK1 := Aside0.mk (show ∀ W2, Below W.heap.size W W2 → Calls Try.prog 99 #[.slice A0 l0.length c0, .int .i64 x.f1] W2 fun e W' => e = .returned (.int .i64 (impl_tradesRight.ak l0 x.f1)) ∧ Below W2.heap.size W2 W' from fun W2 hW2 => impl_accountKind.calls _ A0 c0 l0 x.f1 _ W2 (Kd.C_below hC0 hW2) hc0 (impl_tradesRight.ak_ l0 x.f1 hl0)); have HK2 := Aside0.mk (show ∀ W2, Below W.heap.size W W2 → Calls Try.prog 99 #[.slice A0 l0.length c0, .int .i64 x.f2] W2 fun e W' => e = .returned (.int .i64 (impl_tradesRight.ak l0 x.f2)) ∧ Below W2.heap.size W2 W' from fun W2 hW2 => impl_accountKind.calls _ A0 c0 l0 x.f2 _ W2 (Kd.C_below hC0 hW2) hc0 (impl_tradesRight.ak_ l0 x.f2 hl0)); have HK3 := Aside0.mk (show ∀ W2, Below W.heap.size W W2 → Calls Try.prog 100 #[.slice A1 l1.length c1, .int .i64 x.f3] W2 fun e W' => e = .returned (.int .i64 (impl_tradesRight.ik l1 x.f3)) ∧ Below W2.heap.size W2 W' from fun W2 hW2 => impl_instrKind.calls _ A1 c1 l1 x.f3 _ W2 (Kd.C_below hC1 hW2) hc1 (impl_tradesRight.ik_ l1 x.f3 hl1))
 have HK4 := Aside0.mk (show ∀ W2, Below W.heap.size W W2 → Calls Try.prog 100 #[.slice A1 l1.length c1, .int .i64 x.f5] W2 fun e W' => e = .returned (.int .i64 (impl_tradesRight.ik l1 x.f5)) ∧ Below W2.heap.size W2 W' from fun W2 hW2 => impl_instrKind.calls _ A1 c1 l1 x.f5 _ W2 (Kd.C_below hC1 hW2) hc1 (impl_tradesRight.ik_ l1 x.f5 hl1)); generalize impl_tradesRight.bad l0 l1 x = o at HO ⊢
 generalize impl_tradesRight.ak l0 x.f1 = k1 at HO HK1
 generalize impl_tradesRight.ak l0 x.f2 = k2 at HO HK2
 generalize impl_tradesRight.ik l1 x.f3 = k3 at HO HK3
 generalize impl_tradesRight.ik l1 x.f5 = k4 at HO HK4
 clear h0 h1 hC0 hC1 hc0 hc1 hl0 hl1
 cases e1 : (k1 != 1) with
 | true =>
  obtain rfl : o = true := by rw [HO.1]; simp [e1]
  clear HO; go_enter Try.func104, Try.ntmps104
  go_wp2_with (first | ((with_reducible refine gate_dst (N := 2) rfl ?_); refine be_ 2 (cs := #[.int .i64 x.f0, .int .i64 x.f1, .int .i64 x.f2, .int .i64 x.f3, .int .i64 x.f4, .int .i64 x.f5, .int .i64 x.f6, .int .i64 x.f7]) (t := 50) ?_; intro gb hg w5 hbox hb; have n0_ := Aside0.mk (below_step HB.1 hb); clear HB; have HB := n0_; have BK := Aside0.mk hbox; clear n0_ hb hbox hg; have hc1_w5 : w5.cell? ⟨gb, 1, none⟩ = some (.int .i64 x.f1) := (blk_cell BK.1 1).trans rfl; have hc2_w5 : w5.cell? ⟨gb, 2, none⟩ = some (.int .i64 x.f2) := (blk_cell BK.1 2).trans rfl; have hc3_w5 : w5.cell? ⟨gb, 3, none⟩ = some (.int .i64 x.f3) := (blk_cell BK.1 3).trans rfl; have hc5_w5 : w5.cell? ⟨gb, 5, none⟩ = some (.int .i64 x.f5) := (blk_cell BK.1 5).trans rfl; have g0_w5 := (HB.1.cell (World.block_lt_of_cell? W _ G0.1)).trans G0.1; have g1_w5 := (HB.1.cell (World.block_lt_of_cell? W _ G1.1)).trans G1.1) | (go_at_call 99; (with_reducible refine (HK1.1 _ HB.1).mono ?_); rintro e w6 ⟨rfl, hb⟩; have n0_ := Aside0.mk (below_step HB.1 hb); have n1_ := Aside0.mk (blk_below BK.1 hb); clear HB BK; have HB := n0_; have BK := n1_; clear n0_ n1_ hb; have hc1_w6 : w6.cell? ⟨gb, 1, none⟩ = some (.int .i64 x.f1) := (blk_cell BK.1 1).trans rfl; have hc2_w6 : w6.cell? ⟨gb, 2, none⟩ = some (.int .i64 x.f2) := (blk_cell BK.1 2).trans rfl; have hc3_w6 : w6.cell? ⟨gb, 3, none⟩ = some (.int .i64 x.f3) := (blk_cell BK.1 3).trans rfl; have hc5_w6 : w6.cell? ⟨gb, 5, none⟩ = some (.int .i64 x.f5) := (blk_cell BK.1 5).trans rfl; have g0_w6 := (HB.1.cell (World.block_lt_of_cell? W _ G0.1)).trans G0.1; have g1_w6 := (HB.1.cell (World.block_lt_of_cell? W _ G1.1)).trans G1.1))
  go_ret; exact ⟨rs_, HB.1⟩
 | false =>
  cases e2 : (k2 != 1) with
  | true =>
   obtain rfl : o = true := by rw [HO.1]; simp [e1, e2]
   clear HO; go_enter Try.func104, Try.ntmps104
   go_wp2_with (first | ((with_reducible refine gate_dst (N := 2) rfl ?_); refine be_ 2 (cs := #[.int .i64 x.f0, .int .i64 x.f1, .int .i64 x.f2, .int .i64 x.f3, .int .i64 x.f4, .int .i64 x.f5, .int .i64 x.f6, .int .i64 x.f7]) (t := 50) ?_; intro gb hg w5 hbox hb; have n0_ := Aside0.mk (below_step HB.1 hb); clear HB; have HB := n0_; have BK := Aside0.mk hbox; clear n0_ hb hbox hg; have hc1_w5 : w5.cell? ⟨gb, 1, none⟩ = some (.int .i64 x.f1) := (blk_cell BK.1 1).trans rfl; have hc2_w5 : w5.cell? ⟨gb, 2, none⟩ = some (.int .i64 x.f2) := (blk_cell BK.1 2).trans rfl; have hc3_w5 : w5.cell? ⟨gb, 3, none⟩ = some (.int .i64 x.f3) := (blk_cell BK.1 3).trans rfl; have hc5_w5 : w5.cell? ⟨gb, 5, none⟩ = some (.int .i64 x.f5) := (blk_cell BK.1 5).trans rfl; have g0_w5 := (HB.1.cell (World.block_lt_of_cell? W _ G0.1)).trans G0.1; have g1_w5 := (HB.1.cell (World.block_lt_of_cell? W _ G1.1)).trans G1.1) | (go_at_call 99; (with_reducible refine (HK1.1 _ HB.1).mono ?_); rintro e w6 ⟨rfl, hb⟩; have n0_ := Aside0.mk (below_step HB.1 hb); have n1_ := Aside0.mk (blk_below BK.1 hb); clear HB BK; have HB := n0_; have BK := n1_; clear n0_ n1_ hb; have hc1_w6 : w6.cell? ⟨gb, 1, none⟩ = some (.int .i64 x.f1) := (blk_cell BK.1 1).trans rfl; have hc2_w6 : w6.cell? ⟨gb, 2, none⟩ = some (.int .i64 x.f2) := (blk_cell BK.1 2).trans rfl; have hc3_w6 : w6.cell? ⟨gb, 3, none⟩ = some (.int .i64 x.f3) := (blk_cell BK.1 3).trans rfl; have hc5_w6 : w6.cell? ⟨gb, 5, none⟩ = some (.int .i64 x.f5) := (blk_cell BK.1 5).trans rfl; have g0_w6 := (HB.1.cell (World.block_lt_of_cell? W _ G0.1)).trans G0.1; have g1_w6 := (HB.1.cell (World.block_lt_of_cell? W _ G1.1)).trans G1.1) | (go_at_call 99; (with_reducible refine (HK2.1 _ HB.1).mono ?_); rintro e w7 ⟨rfl, hb⟩; have n0_ := Aside0.mk (below_step HB.1 hb); have n1_ := Aside0.mk (blk_below BK.1 hb); clear HB BK; have HB := n0_; have BK := n1_; clear n0_ n1_ hb; have hc1_w7 : w7.cell? ⟨gb, 1, none⟩ = some (.int .i64 x.f1) := (blk_cell BK.1 1).trans rfl; have hc2_w7 : w7.cell? ⟨gb, 2, none⟩ = some (.int .i64 x.f2) := (blk_cell BK.1 2).trans rfl; have hc3_w7 : w7.cell? ⟨gb, 3, none⟩ = some (.int .i64 x.f3) := (blk_cell BK.1 3).trans rfl; have hc5_w7 : w7.cell? ⟨gb, 5, none⟩ = some (.int .i64 x.f5) := (blk_cell BK.1 5).trans rfl; have g0_w7 := (HB.1.cell (World.block_lt_of_cell? W _ G0.1)).trans G0.1; have g1_w7 := (HB.1.cell (World.block_lt_of_cell? W _ G1.1)).trans G1.1))
   go_ret; exact ⟨rs_, HB.1⟩
  | false =>
   cases e3 : (k3 != 2) with
   | true =>
    obtain rfl : o = true := by rw [HO.1]; simp [e1, e2, e3]
    clear HO; go_enter Try.func104, Try.ntmps104
    go_wp2_with (first | ((with_reducible refine gate_dst (N := 2) rfl ?_); refine be_ 2 (cs := #[.int .i64 x.f0, .int .i64 x.f1, .int .i64 x.f2, .int .i64 x.f3, .int .i64 x.f4, .int .i64 x.f5, .int .i64 x.f6, .int .i64 x.f7]) (t := 50) ?_; intro gb hg w5 hbox hb; have n0_ := Aside0.mk (below_step HB.1 hb); clear HB; have HB := n0_; have BK := Aside0.mk hbox; clear n0_ hb hbox hg; have hc1_w5 : w5.cell? ⟨gb, 1, none⟩ = some (.int .i64 x.f1) := (blk_cell BK.1 1).trans rfl; have hc2_w5 : w5.cell? ⟨gb, 2, none⟩ = some (.int .i64 x.f2) := (blk_cell BK.1 2).trans rfl; have hc3_w5 : w5.cell? ⟨gb, 3, none⟩ = some (.int .i64 x.f3) := (blk_cell BK.1 3).trans rfl; have hc5_w5 : w5.cell? ⟨gb, 5, none⟩ = some (.int .i64 x.f5) := (blk_cell BK.1 5).trans rfl; have g0_w5 := (HB.1.cell (World.block_lt_of_cell? W _ G0.1)).trans G0.1; have g1_w5 := (HB.1.cell (World.block_lt_of_cell? W _ G1.1)).trans G1.1) | (go_at_call 99; (with_reducible refine (HK1.1 _ HB.1).mono ?_); rintro e w6 ⟨rfl, hb⟩; have n0_ := Aside0.mk (below_step HB.1 hb); have n1_ := Aside0.mk (blk_below BK.1 hb); clear HB BK; have HB := n0_; have BK := n1_; clear n0_ n1_ hb; have hc1_w6 : w6.cell? ⟨gb, 1, none⟩ = some (.int .i64 x.f1) := (blk_cell BK.1 1).trans rfl; have hc2_w6 : w6.cell? ⟨gb, 2, none⟩ = some (.int .i64 x.f2) := (blk_cell BK.1 2).trans rfl; have hc3_w6 : w6.cell? ⟨gb, 3, none⟩ = some (.int .i64 x.f3) := (blk_cell BK.1 3).trans rfl; have hc5_w6 : w6.cell? ⟨gb, 5, none⟩ = some (.int .i64 x.f5) := (blk_cell BK.1 5).trans rfl; have g0_w6 := (HB.1.cell (World.block_lt_of_cell? W _ G0.1)).trans G0.1; have g1_w6 := (HB.1.cell (World.block_lt_of_cell? W _ G1.1)).trans G1.1) | (go_at_call 99; (with_reducible refine (HK2.1 _ HB.1).mono ?_); rintro e w7 ⟨rfl, hb⟩; have n0_ := Aside0.mk (below_step HB.1 hb); have n1_ := Aside0.mk (blk_below BK.1 hb); clear HB BK; have HB := n0_; have BK := n1_; clear n0_ n1_ hb; have hc1_w7 : w7.cell? ⟨gb, 1, none⟩ = some (.int .i64 x.f1) := (blk_cell BK.1 1).trans rfl; have hc2_w7 : w7.cell? ⟨gb, 2, none⟩ = some (.int .i64 x.f2) := (blk_cell BK.1 2).trans rfl; have hc3_w7 : w7.cell? ⟨gb, 3, none⟩ = some (.int .i64 x.f3) := (blk_cell BK.1 3).trans rfl; have hc5_w7 : w7.cell? ⟨gb, 5, none⟩ = some (.int .i64 x.f5) := (blk_cell BK.1 5).trans rfl; have g0_w7 := (HB.1.cell (World.block_lt_of_cell? W _ G0.1)).trans G0.1; have g1_w7 := (HB.1.cell (World.block_lt_of_cell? W _ G1.1)).trans G1.1) | (go_at_call 100; (with_reducible refine (HK3.1 _ HB.1).mono ?_); rintro e w8 ⟨rfl, hb⟩; have n0_ := Aside0.mk (below_step HB.1 hb); have n1_ := Aside0.mk (blk_below BK.1 hb); clear HB BK; have HB := n0_; have BK := n1_; clear n0_ n1_ hb; have hc1_w8 : w8.cell? ⟨gb, 1, none⟩ = some (.int .i64 x.f1) := (blk_cell BK.1 1).trans rfl; have hc2_w8 : w8.cell? ⟨gb, 2, none⟩ = some (.int .i64 x.f2) := (blk_cell BK.1 2).trans rfl; have hc3_w8 : w8.cell? ⟨gb, 3, none⟩ = some (.int .i64 x.f3) := (blk_cell BK.1 3).trans rfl; have hc5_w8 : w8.cell? ⟨gb, 5, none⟩ = some (.int .i64 x.f5) := (blk_cell BK.1 5).trans rfl; have g0_w8 := (HB.1.cell (World.block_lt_of_cell? W _ G0.1)).trans G0.1; have g1_w8 := (HB.1.cell (World.block_lt_of_cell? W _ G1.1)).trans G1.1))
    go_ret; exact ⟨rs_, HB.1⟩
   | false =>
    cases e4 : (k4 != 1) with
    | true =>
     obtain rfl : o = true := by rw [HO.1]; simp [e1, e2, e3, e4]
     clear HO; go_enter Try.func104, Try.ntmps104
     go_wp2_with (first | ((with_reducible refine gate_dst (N := 2) rfl ?_); refine be_ 2 (cs := #[.int .i64 x.f0, .int .i64 x.f1, .int .i64 x.f2, .int .i64 x.f3, .int .i64 x.f4, .int .i64 x.f5, .int .i64 x.f6, .int .i64 x.f7]) (t := 50) ?_; intro gb hg w5 hbox hb; have n0_ := Aside0.mk (below_step HB.1 hb); clear HB; have HB := n0_; have BK := Aside0.mk hbox; clear n0_ hb hbox hg; have hc1_w5 : w5.cell? ⟨gb, 1, none⟩ = some (.int .i64 x.f1) := (blk_cell BK.1 1).trans rfl; have hc2_w5 : w5.cell? ⟨gb, 2, none⟩ = some (.int .i64 x.f2) := (blk_cell BK.1 2).trans rfl; have hc3_w5 : w5.cell? ⟨gb, 3, none⟩ = some (.int .i64 x.f3) := (blk_cell BK.1 3).trans rfl; have hc5_w5 : w5.cell? ⟨gb, 5, none⟩ = some (.int .i64 x.f5) := (blk_cell BK.1 5).trans rfl; have g0_w5 := (HB.1.cell (World.block_lt_of_cell? W _ G0.1)).trans G0.1; have g1_w5 := (HB.1.cell (World.block_lt_of_cell? W _ G1.1)).trans G1.1) | (go_at_call 99; (with_reducible refine (HK1.1 _ HB.1).mono ?_); rintro e w6 ⟨rfl, hb⟩; have n0_ := Aside0.mk (below_step HB.1 hb); have n1_ := Aside0.mk (blk_below BK.1 hb); clear HB BK; have HB := n0_; have BK := n1_; clear n0_ n1_ hb; have hc1_w6 : w6.cell? ⟨gb, 1, none⟩ = some (.int .i64 x.f1) := (blk_cell BK.1 1).trans rfl; have hc2_w6 : w6.cell? ⟨gb, 2, none⟩ = some (.int .i64 x.f2) := (blk_cell BK.1 2).trans rfl; have hc3_w6 : w6.cell? ⟨gb, 3, none⟩ = some (.int .i64 x.f3) := (blk_cell BK.1 3).trans rfl; have hc5_w6 : w6.cell? ⟨gb, 5, none⟩ = some (.int .i64 x.f5) := (blk_cell BK.1 5).trans rfl; have g0_w6 := (HB.1.cell (World.block_lt_of_cell? W _ G0.1)).trans G0.1; have g1_w6 := (HB.1.cell (World.block_lt_of_cell? W _ G1.1)).trans G1.1) | (go_at_call 99; (with_reducible refine (HK2.1 _ HB.1).mono ?_); rintro e w7 ⟨rfl, hb⟩; have n0_ := Aside0.mk (below_step HB.1 hb); have n1_ := Aside0.mk (blk_below BK.1 hb); clear HB BK; have HB := n0_; have BK := n1_; clear n0_ n1_ hb; have hc1_w7 : w7.cell? ⟨gb, 1, none⟩ = some (.int .i64 x.f1) := (blk_cell BK.1 1).trans rfl; have hc2_w7 : w7.cell? ⟨gb, 2, none⟩ = some (.int .i64 x.f2) := (blk_cell BK.1 2).trans rfl; have hc3_w7 : w7.cell? ⟨gb, 3, none⟩ = some (.int .i64 x.f3) := (blk_cell BK.1 3).trans rfl; have hc5_w7 : w7.cell? ⟨gb, 5, none⟩ = some (.int .i64 x.f5) := (blk_cell BK.1 5).trans rfl; have g0_w7 := (HB.1.cell (World.block_lt_of_cell? W _ G0.1)).trans G0.1; have g1_w7 := (HB.1.cell (World.block_lt_of_cell? W _ G1.1)).trans G1.1) | (go_at_call 100; (with_reducible refine (HK3.1 _ HB.1).mono ?_); rintro e w8 ⟨rfl, hb⟩; have n0_ := Aside0.mk (below_step HB.1 hb); have n1_ := Aside0.mk (blk_below BK.1 hb); clear HB BK; have HB := n0_; have BK := n1_; clear n0_ n1_ hb; have hc1_w8 : w8.cell? ⟨gb, 1, none⟩ = some (.int .i64 x.f1) := (blk_cell BK.1 1).trans rfl; have hc2_w8 : w8.cell? ⟨gb, 2, none⟩ = some (.int .i64 x.f2) := (blk_cell BK.1 2).trans rfl; have hc3_w8 : w8.cell? ⟨gb, 3, none⟩ = some (.int .i64 x.f3) := (blk_cell BK.1 3).trans rfl; have hc5_w8 : w8.cell? ⟨gb, 5, none⟩ = some (.int .i64 x.f5) := (blk_cell BK.1 5).trans rfl; have g0_w8 := (HB.1.cell (World.block_lt_of_cell? W _ G0.1)).trans G0.1; have g1_w8 := (HB.1.cell (World.block_lt_of_cell? W _ G1.1)).trans G1.1) | (go_at_call 100; (with_reducible refine (HK4.1 _ HB.1).mono ?_); rintro e w9 ⟨rfl, hb⟩; have n0_ := Aside0.mk (below_step HB.1 hb); have n1_ := Aside0.mk (blk_below BK.1 hb); clear HB BK; have HB := n0_; have BK := n1_; clear n0_ n1_ hb; have hc1_w9 : w9.cell? ⟨gb, 1, none⟩ = some (.int .i64 x.f1) := (blk_cell BK.1 1).trans rfl; have hc2_w9 : w9.cell? ⟨gb, 2, none⟩ = some (.int .i64 x.f2) := (blk_cell BK.1 2).trans rfl; have hc3_w9 : w9.cell? ⟨gb, 3, none⟩ = some (.int .i64 x.f3) := (blk_cell BK.1 3).trans rfl; have hc5_w9 : w9.cell? ⟨gb, 5, none⟩ = some (.int .i64 x.f5) := (blk_cell BK.1 5).trans rfl; have g0_w9 := (HB.1.cell (World.block_lt_of_cell? W _ G0.1)).trans G0.1; have g1_w9 := (HB.1.cell (World.block_lt_of_cell? W _ G1.1)).trans G1.1))
     go_ret; exact ⟨rs_, HB.1⟩
    | false =>
     obtain rfl : o = false := by rw [HO.1]; simp [e1, e2, e3, e4]
     clear HO; go_enter Try.func104, Try.ntmps104
     go_wp2_with (first | ((with_reducible refine gate_dst (N := 2) rfl ?_); refine be_ 2 (cs := #[.int .i64 x.f0, .int .i64 x.f1, .int .i64 x.f2, .int .i64 x.f3, .int .i64 x.f4, .int .i64 x.f5, .int .i64 x.f6, .int .i64 x.f7]) (t := 50) ?_; intro gb hg w5 hbox hb; have n0_ := Aside0.mk (below_step HB.1 hb); clear HB; have HB := n0_; have BK := Aside0.mk hbox; clear n0_ hb hbox hg; have hc1_w5 : w5.cell? ⟨gb, 1, none⟩ = some (.int .i64 x.f1) := (blk_cell BK.1 1).trans rfl; have hc2_w5 : w5.cell? ⟨gb, 2, none⟩ = some (.int .i64 x.f2) := (blk_cell BK.1 2).trans rfl; have hc3_w5 : w5.cell? ⟨gb, 3, none⟩ = some (.int .i64 x.f3) := (blk_cell BK.1 3).trans rfl; have hc5_w5 : w5.cell? ⟨gb, 5, none⟩ = some (.int .i64 x.f5) := (blk_cell BK.1 5).trans rfl; have g0_w5 := (HB.1.cell (World.block_lt_of_cell? W _ G0.1)).trans G0.1; have g1_w5 := (HB.1.cell (World.block_lt_of_cell? W _ G1.1)).trans G1.1) | (go_at_call 99; (with_reducible refine (HK1.1 _ HB.1).mono ?_); rintro e w6 ⟨rfl, hb⟩; have n0_ := Aside0.mk (below_step HB.1 hb); have n1_ := Aside0.mk (blk_below BK.1 hb); clear HB BK; have HB := n0_; have BK := n1_; clear n0_ n1_ hb; have hc1_w6 : w6.cell? ⟨gb, 1, none⟩ = some (.int .i64 x.f1) := (blk_cell BK.1 1).trans rfl; have hc2_w6 : w6.cell? ⟨gb, 2, none⟩ = some (.int .i64 x.f2) := (blk_cell BK.1 2).trans rfl; have hc3_w6 : w6.cell? ⟨gb, 3, none⟩ = some (.int .i64 x.f3) := (blk_cell BK.1 3).trans rfl; have hc5_w6 : w6.cell? ⟨gb, 5, none⟩ = some (.int .i64 x.f5) := (blk_cell BK.1 5).trans rfl; have g0_w6 := (HB.1.cell (World.block_lt_of_cell? W _ G0.1)).trans G0.1; have g1_w6 := (HB.1.cell (World.block_lt_of_cell? W _ G1.1)).trans G1.1) | (go_at_call 99; (with_reducible refine (HK2.1 _ HB.1).mono ?_); rintro e w7 ⟨rfl, hb⟩; have n0_ := Aside0.mk (below_step HB.1 hb); have n1_ := Aside0.mk (blk_below BK.1 hb); clear HB BK; have HB := n0_; have BK := n1_; clear n0_ n1_ hb; have hc1_w7 : w7.cell? ⟨gb, 1, none⟩ = some (.int .i64 x.f1) := (blk_cell BK.1 1).trans rfl; have hc2_w7 : w7.cell? ⟨gb, 2, none⟩ = some (.int .i64 x.f2) := (blk_cell BK.1 2).trans rfl; have hc3_w7 : w7.cell? ⟨gb, 3, none⟩ = some (.int .i64 x.f3) := (blk_cell BK.1 3).trans rfl; have hc5_w7 : w7.cell? ⟨gb, 5, none⟩ = some (.int .i64 x.f5) := (blk_cell BK.1 5).trans rfl; have g0_w7 := (HB.1.cell (World.block_lt_of_cell? W _ G0.1)).trans G0.1; have g1_w7 := (HB.1.cell (World.block_lt_of_cell? W _ G1.1)).trans G1.1) | (go_at_call 100; (with_reducible refine (HK3.1 _ HB.1).mono ?_); rintro e w8 ⟨rfl, hb⟩; have n0_ := Aside0.mk (below_step HB.1 hb); have n1_ := Aside0.mk (blk_below BK.1 hb); clear HB BK; have HB := n0_; have BK := n1_; clear n0_ n1_ hb; have hc1_w8 : w8.cell? ⟨gb, 1, none⟩ = some (.int .i64 x.f1) := (blk_cell BK.1 1).trans rfl; have hc2_w8 : w8.cell? ⟨gb, 2, none⟩ = some (.int .i64 x.f2) := (blk_cell BK.1 2).trans rfl; have hc3_w8 : w8.cell? ⟨gb, 3, none⟩ = some (.int .i64 x.f3) := (blk_cell BK.1 3).trans rfl; have hc5_w8 : w8.cell? ⟨gb, 5, none⟩ = some (.int .i64 x.f5) := (blk_cell BK.1 5).trans rfl; have g0_w8 := (HB.1.cell (World.block_lt_of_cell? W _ G0.1)).trans G0.1; have g1_w8 := (HB.1.cell (World.block_lt_of_cell? W _ G1.1)).trans G1.1) | (go_at_call 100; (with_reducible refine (HK4.1 _ HB.1).mono ?_); rintro e w9 ⟨rfl, hb⟩; have n0_ := Aside0.mk (below_step HB.1 hb); have n1_ := Aside0.mk (blk_below BK.1 hb); clear HB BK; have HB := n0_; have BK := n1_; clear n0_ n1_ hb; have hc1_w9 : w9.cell? ⟨gb, 1, none⟩ = some (.int .i64 x.f1) := (blk_cell BK.1 1).trans rfl; have hc2_w9 : w9.cell? ⟨gb, 2, none⟩ = some (.int .i64 x.f2) := (blk_cell BK.1 2).trans rfl; have hc3_w9 : w9.cell? ⟨gb, 3, none⟩ = some (.int .i64 x.f3) := (blk_cell BK.1 3).trans rfl; have hc5_w9 : w9.cell? ⟨gb, 5, none⟩ = some (.int .i64 x.f5) := (blk_cell BK.1 5).trans rfl; have g0_w9 := (HB.1.cell (World.block_lt_of_cell? W _ G0.1)).trans G0.1; have g1_w9 := (HB.1.cell (World.block_lt_of_cell? W _ G1.1)).trans G1.1))
     go_ret; exact ⟨rs_, HB.1⟩
theorem impl_tradesRight.pred {B : Nat} {A0 : Option Addr} {c0 : Nat} {l0 : List (S88)} {A1 : Option Addr} {c1 : Nat} {l1 : List (S90)} {w : World} (h0 : w.cell? ⟨B, 0, none⟩ = some (.slice A0 l0.length c0)) (h1 : w.cell? ⟨B, 1, none⟩ = some (.slice A1 l1.length c1)) (hC0 : Kd.C k88 w A0 l0.length l0) (hC1 : Kd.C k90 w A1 l1.length l1) (hc0 : l0.length ≤ c0) (hc1 : l1.length ≤ c1) (hl0 : l0.length < 1048577) (hl1 : l1.length < 1048577) :
 X0.FnB Try.prog 104 #[.pointer (some ⟨B, 0, none⟩)] w (fun x : S50 => .agg #[.int .i64 x.f0, .int .i64 x.f1, .int .i64 x.f2, .int .i64 x.f3, .int .i64 x.f4, .int .i64 x.f5, .int .i64 x.f6, .int .i64 x.f7]) (impl_tradesRight.bad l0 l1) :=
 ⟨_, Try.func104, by kernel_rfl, rfl, fun x W hW => impl_tradesRight.clo B A0 c0 l0 A1 c1 l1 x W ((hW.cell (World.block_lt_of_cell? w _ h0)).trans h0) ((hW.cell (World.block_lt_of_cell? w _ h1)).trans h1) (Kd.C_below hC0 hW) (Kd.C_below hC1 hW) hc0 hc1 hl0 hl1⟩
theorem impl_tradesRight.calls (A0_0 : Option Addr) (c0_0 : Nat) (l0_0 : List (S88)) (A0_1 : Option Addr) (c0_1 : Nat) (l0_1 : List (S90)) (A0_2 : Option Addr) (c0_2 : Nat) (l0_2 : List (S93)) (A0_3 : Option Addr) (c0_3 : Nat) (l0_3 : List (S96)) (A0_4 : Option Addr) (c0_4 : Nat) (l0_4 : List (S50)) (a0_5 : Int) (r : Bool) (w : World) (hr0_0 : Kd.C k88 w A0_0 l0_0.length l0_0) (hc0_0 : l0_0.length ≤ c0_0) (hr0_1 : Kd.C k90 w A0_1 l0_1.length l0_1) (hc0_1 : l0_1.length ≤ c0_1) (hr0_2 : Kd.C k93 w A0_2 l0_2.length l0_2) (hc0_2 : l0_2.length ≤ c0_2) (hr0_3 : Kd.C k96 w A0_3 l0_3.length l0_3) (hc0_3 : l0_3.length ≤ c0_3) (hr0_4 : Kd.C k50 w A0_4 l0_4.length l0_4) (hc0_4 : l0_4.length ≤ c0_4) (h : impl_tradesRight.f l0_0 l0_1 l0_2 l0_3 l0_4 a0_5 = some r) :
 Calls Try.prog 72 #[.agg #[.slice A0_0 l0_0.length c0_0, .slice A0_1 l0_1.length c0_1, .slice A0_2 l0_2.length c0_2, .slice A0_3 l0_3.length c0_3, .slice A0_4 l0_4.length c0_4, .int .i64 a0_5]] w fun e w' => e = .returned (.bool r) ∧ Below w.heap.size w w' := by
 unfold impl_tradesRight.f at h
 by_cases hh : l0_0.length < 1048577 ∧ l0_1.length < 1048577
 ·
  rw [if_pos hh] at h; obtain rfl := Option.some.inj h; have HB := Aside0.mk (Below.refl w.heap.size w); have HR0 := Aside0.mk hr0_0; have HC0 := Aside0.mk hc0_0; have HR1 := Aside0.mk hr0_1; have HC1 := Aside0.mk hc0_1; have HR4 := Aside0.mk hr0_4; have HC4 := Aside0.mk hc0_4; have HL := Aside0.mk hh; clear hr0_0 hc0_0 hr0_1 hc0_1 hr0_2 hc0_2 hr0_3 hc0_3 hr0_4 hc0_4 hh h; go_enter Try.func72, Try.ntmps72
  go_wp2_with (first | ((with_reducible refine gate_dst (N := 1) rfl ?_); refine be_ 1 (cs := #[.slice A0_0 l0_0.length c0_0, .slice A0_1 l0_1.length c0_1, .slice A0_2 l0_2.length c0_2, .slice A0_3 l0_3.length c0_3, .slice A0_4 l0_4.length c0_4, .int .i64 a0_5]) (t := 34) ?_; intro gb hg w5 hbox hb; have n0_ := Aside0.mk (below_step HB.1 hb); clear HB; have HB := n0_; have BK := Aside0.mk hbox; clear n0_ hb hbox hg; have hc4_w5 : w5.cell? ⟨gb, 4, none⟩ = some (.slice A0_4 l0_4.length c0_4) := (blk_cell BK.1 4).trans rfl) | ((with_reducible refine gate_callee (f := 103) rfl ?_); (try (refine gate_guard (by rfl) ?_; dsimp only)); refine goesL_ (some 6) rfl rfl Try.func103 kr_ rfl #[.slice A0_4 l0_4.length c0_4, .func (.func 104) #[] #[.pointer (some ⟨gb, 0, none⟩)]] rfl (by (try simp only [List.map_toArray, List.map_cons, List.map_nil]); first | done | rfl) ?_; (with_reducible refine (ContainsFunc_st50.calls _ _ l0_4 _ #[.pointer (some ⟨gb, 0, none⟩)] (impl_tradesRight.bad l0_0 l0_1) _ (Kd.C_below HR4.1 HB.1) HC4.1 (impl_tradesRight.pred ((blk_cell BK.1 0).trans rfl) ((blk_cell BK.1 1).trans rfl) (Kd.C_below HR0.1 HB.1) (Kd.C_below HR1.1 HB.1) HC0.1 HC1.1 HL.1.1 HL.1.2)).mono ?_); rintro e w6 ⟨rfl, hb⟩; refine ⟨_, rfl, ?_⟩; replace HB := Aside0.mk (below_step HB.1 hb); clear hb))
  go_ret; exact ⟨rs_, HB.1⟩
 ·
  rw [if_neg hh] at h; cases h
def impl_BooksOk.j0 : Nat → Bool → List (S88) → List (S90) → List (S93) → List (S96) → List (S50) → Int → Option (Bool)
 | 0, _, _, _, _, _, _, _ => none
 | k + 1, x36, x442000, x442001, x442002, x442003, x442004, x442005 => if x36 = true then (some false) else ((impl_balsRight.f k x442000 x442001 x442002 x442003 x442004 x442005).bind fun t448 => (if t448 = true then ((impl_lotsRight.f k x442000 x442001 x442002 x442003 x442004 x442005).bind fun t449 => (if t449 = true then ((impl_tradesRight.f x442000 x442001 x442002 x442003 x442004 x442005).bind fun t450 => (some t450)) else (some false))) else (some false)))
def impl_BooksOk.f (k : Nat) (l0_0 : List (S88)) (l0_1 : List (S90)) (l0_2 : List (S93)) (l0_3 : List (S96)) (l0_4 : List (S50)) (a0_5 : Int) : Option (Bool) := (impl_AccountsOk.f k l0_0).bind fun t442 => (if t442 = true then ((impl_InstrsOk.f k l0_1).bind fun t443 => (if t443 = true then ((impl_BalsOk.f k l0_2).bind fun t444 => (if t444 = true then ((impl_LotsOk.f l0_3).bind fun t445 => (if t445 = true then ((impl_TradesOk.f k l0_4).bind fun t446 => (if t446 = true then ((impl_in.f a0_5 0 1000000000).bind fun t447 => (impl_BooksOk.j0 k (!t447) l0_0 l0_1 l0_2 l0_3 l0_4 a0_5)) else (impl_BooksOk.j0 k true l0_0 l0_1 l0_2 l0_3 l0_4 a0_5))) else (impl_BooksOk.j0 k true l0_0 l0_1 l0_2 l0_3 l0_4 a0_5))) else (impl_BooksOk.j0 k true l0_0 l0_1 l0_2 l0_3 l0_4 a0_5))) else (impl_BooksOk.j0 k true l0_0 l0_1 l0_2 l0_3 l0_4 a0_5))) else (impl_BooksOk.j0 k true l0_0 l0_1 l0_2 l0_3 l0_4 a0_5))
theorem impl_BooksOk.calls (k : Nat) (A0_0 : Option Addr) (c0_0 : Nat) (l0_0 : List (S88)) (A0_1 : Option Addr) (c0_1 : Nat) (l0_1 : List (S90)) (A0_2 : Option Addr) (c0_2 : Nat) (l0_2 : List (S93)) (A0_3 : Option Addr) (c0_3 : Nat) (l0_3 : List (S96)) (A0_4 : Option Addr) (c0_4 : Nat) (l0_4 : List (S50)) (a0_5 : Int) (r : Bool) (w : World) (hr0_0 : Kd.C k88 w A0_0 l0_0.length l0_0) (hc0_0 : l0_0.length ≤ c0_0) (hr0_1 : Kd.C k90 w A0_1 l0_1.length l0_1) (hc0_1 : l0_1.length ≤ c0_1) (hr0_2 : Kd.C k93 w A0_2 l0_2.length l0_2) (hc0_2 : l0_2.length ≤ c0_2) (hr0_3 : Kd.C k96 w A0_3 l0_3.length l0_3) (hc0_3 : l0_3.length ≤ c0_3) (hr0_4 : Kd.C k50 w A0_4 l0_4.length l0_4) (hc0_4 : l0_4.length ≤ c0_4) (h : impl_BooksOk.f k l0_0 l0_1 l0_2 l0_3 l0_4 a0_5 = some r) :
 Calls Try.prog 21 #[.agg #[.slice A0_0 l0_0.length c0_0, .slice A0_1 l0_1.length c0_1, .slice A0_2 l0_2.length c0_2, .slice A0_3 l0_3.length c0_3, .slice A0_4 l0_4.length c0_4, .int .i64 a0_5]] w fun e w' => e = .returned (.bool r) ∧ Below w.heap.size w w' := by
 have hu34 := Try.underlying34; have HR0_0 := Aside0.mk hr0_0; have HC0_0 := Aside0.mk hc0_0; clear hr0_0 hc0_0; have HR0_1 := Aside0.mk hr0_1; have HC0_1 := Aside0.mk hc0_1; clear hr0_1 hc0_1; have HR0_2 := Aside0.mk hr0_2; have HC0_2 := Aside0.mk hc0_2; clear hr0_2 hc0_2; have HR0_3 := Aside0.mk hr0_3; have HC0_3 := Aside0.mk hc0_3; clear hr0_3 hc0_3; have HR0_4 := Aside0.mk hr0_4; have HC0_4 := Aside0.mk hc0_4; clear hr0_4 hc0_4; have HB := Aside0.mk (Below.refl w.heap.size w); have H : ((impl_AccountsOk.f k l0_0).bind fun t442 => (if t442 = true then ((impl_InstrsOk.f k l0_1).bind fun t443 => (if t443 = true then ((impl_BalsOk.f k l0_2).bind fun t444 => (if t444 = true then ((impl_LotsOk.f l0_3).bind fun t445 => (if t445 = true then ((impl_TradesOk.f k l0_4).bind fun t446 => (if t446 = true then ((impl_in.f a0_5 0 1000000000).bind fun t447 => (impl_BooksOk.j0 k (!t447) l0_0 l0_1 l0_2 l0_3 l0_4 a0_5)) else (impl_BooksOk.j0 k true l0_0 l0_1 l0_2 l0_3 l0_4 a0_5))) else (impl_BooksOk.j0 k true l0_0 l0_1 l0_2 l0_3 l0_4 a0_5))) else (impl_BooksOk.j0 k true l0_0 l0_1 l0_2 l0_3 l0_4 a0_5))) else (impl_BooksOk.j0 k true l0_0 l0_1 l0_2 l0_3 l0_4 a0_5))) else (impl_BooksOk.j0 k true l0_0 l0_1 l0_2 l0_3 l0_4 a0_5))) = some r := h; clear h; have HC2 := Aside0.mk H; clear H; go_enter Try.func21, Try.ntmps21
 go_upto_region 1 with (first | ((with_reducible refine gate_dst (N := 1) rfl ?_); refine be_ 1 (cs := #[.slice A0_0 l0_0.length c0_0, .slice A0_1 l0_1.length c0_1, .slice A0_2 l0_2.length c0_2, .slice A0_3 l0_3.length c0_3, .slice A0_4 l0_4.length c0_4, .int .i64 a0_5]) (t := 34) ?_; intro gb441 hg w3 hbox hb; have n_ := bx_ hg hbox hb; clear HB; obtain ⟨HB, BK441, GW441, GE441⟩ := n_; clear hb hbox hg))
 (try simp only [Act.put, List.setIfInBounds_toArray, List.set_cons_zero, List.set_cons_succ])
 go_cut [36] (fun v36 wc => ∃ (kq : Nat) (x36_1 : Bool), v36 = .bool x36_1 ∧ Aside0 (impl_BooksOk.j0 kq x36_1 l0_0 l0_1 l0_2 l0_3 l0_4 a0_5 = some r) ∧ Aside0 (kq ≤ k) ∧ Aside0 (wc.heap[gb441]? = some (.cells #[(.slice A0_0 l0_0.length c0_0), (.slice A0_1 l0_1.length c0_1), (.slice A0_2 l0_2.length c0_2), (.slice A0_3 l0_3.length c0_3), (.slice A0_4 l0_4.length c0_4), .int .i64 a0_5] 34 (0, 0))) ∧ Aside0 (Below w.heap.size w wc))
 case first =>
  have H := HC2.1; clear HC2; replace H := Option.bind_eq_some_iff.mp H; obtain ⟨t442, A40, H⟩ := H; have A4 := Aside0.mk A40; clear A40
  by_cases c5 : t442 = true
  ·
   subst c5; replace H := Eq.trans (if_pos rfl).symm H; replace H := Option.bind_eq_some_iff.mp H; obtain ⟨t443, A60, H⟩ := H; have A6 := Aside0.mk A60; clear A60
   by_cases c7 : t443 = true
   ·
    subst c7; replace H := Eq.trans (if_pos rfl).symm H; replace H := Option.bind_eq_some_iff.mp H; obtain ⟨t444, A80, H⟩ := H; have A8 := Aside0.mk A80; clear A80
    by_cases c9 : t444 = true
    ·
     subst c9; replace H := Eq.trans (if_pos rfl).symm H; replace H := Option.bind_eq_some_iff.mp H; obtain ⟨t445, A100, H⟩ := H; have A10 := Aside0.mk A100; clear A100
     by_cases c11 : t445 = true
     ·
      subst c11; replace H := Eq.trans (if_pos rfl).symm H; replace H := Option.bind_eq_some_iff.mp H; obtain ⟨t446, A120, H⟩ := H; have A12 := Aside0.mk A120; clear A120
      by_cases c13 : t446 = true
      ·
       subst c13; replace H := Eq.trans (if_pos rfl).symm H; replace H := Option.bind_eq_some_iff.mp H; obtain ⟨t447, A140, H⟩ := H; have A14 := Aside0.mk A140; clear A140; have H' := Aside0.mk H; clear H; obtain ⟨_, _, _, _, _, _, _, _, _, _, _, _⟩ := ce6_ BK441.1
       go_wp2_with (first | ((with_reducible refine gate_callee (f := 66) rfl ?_); refine goesL_ (some 5) rfl rfl Try.func66 kr_ rfl #[.slice A0_0 l0_0.length c0_0] rfl (bc_) ?_; (with_reducible refine (impl_AccountsOk.calls k _ _ l0_0 true _ ?side1 ?side2 A4.1).mono ?_); (case side1 => exact cc_ (Kd.C_below HR0_0.1 HB.1)); (case side2 => exact HC0_0.1); rintro e w16 ⟨rfl, hb⟩; refine ⟨_, rfl, ?_⟩; have n_ := as2_ (bl_ BK441.1 hb) (below_step (bg_ GE441.1) hb); clear BK441 HB; obtain ⟨BK441, HB⟩ := n_; (try clear hb); obtain ⟨_, _, _, _, _, _, _, _, _, _, _, _⟩ := ce6_ BK441.1) | (go_at_call 67; (with_reducible refine (impl_InstrsOk.calls k _ _ l0_1 true _ ?side1 ?side2 A6.1).mono ?_); (case side1 => exact cc_ (Kd.C_below HR0_1.1 HB.1)); (case side2 => exact HC0_1.1); rintro e w18 ⟨rfl, hb⟩; have n_ := as2_ (bl_ BK441.1 hb) (below_step (bg_ GE441.1) hb); clear BK441 HB; obtain ⟨BK441, HB⟩ := n_; (try clear hb); obtain ⟨_, _, _, _, _, _, _, _, _, _, _, _⟩ := ce6_ BK441.1) | (go_at_call 68; (with_reducible refine (impl_BalsOk.calls k _ _ l0_2 true _ ?side1 ?side2 A8.1).mono ?_); (case side1 => exact cc_ (Kd.C_below HR0_2.1 HB.1)); (case side2 => exact HC0_2.1); rintro e w20 ⟨rfl, hb⟩; have n_ := as2_ (bl_ BK441.1 hb) (below_step (bg_ GE441.1) hb); clear BK441 HB; obtain ⟨BK441, HB⟩ := n_; (try clear hb); obtain ⟨_, _, _, _, _, _, _, _, _, _, _, _⟩ := ce6_ BK441.1) | (go_at_call 69; (with_reducible refine (impl_LotsOk.calls _ _ l0_3 true _ ?side1 ?side2 A10.1).mono ?_); (case side1 => exact cc_ (Kd.C_below HR0_3.1 HB.1)); (case side2 => exact HC0_3.1); rintro e w22 ⟨rfl, hb⟩; have n_ := as2_ (bl_ BK441.1 hb) (below_step (bg_ GE441.1) hb); clear BK441 HB; obtain ⟨BK441, HB⟩ := n_; (try clear hb); obtain ⟨_, _, _, _, _, _, _, _, _, _, _, _⟩ := ce6_ BK441.1) | (go_at_call 11; (with_reducible refine (impl_TradesOk.calls k _ _ l0_4 true _ ?side1 ?side2 A12.1).mono ?_); (case side1 => exact cc_ (Kd.C_below HR0_4.1 HB.1)); (case side2 => exact HC0_4.1); rintro e w24 ⟨rfl, hb⟩; have n_ := as2_ (bl_ BK441.1 hb) (below_step (bg_ GE441.1) hb); clear BK441 HB; obtain ⟨BK441, HB⟩ := n_; (try clear hb); obtain ⟨_, _, _, _, _, _, _, _, _, _, _, _⟩ := ce6_ BK441.1) | (go_at_call 35; (with_reducible refine (impl_in.calls a0_5 0 1000000000 t447 _ A14.1).mono ?_); rintro e w' ⟨rfl, ⟨nd, rfl⟩⟩))
       go_meet
       case rel => exact ⟨_, (!t447), (rs_), H', ⟨le_⟩, ⟨pb_ BK441.1⟩, ⟨bg_ GE441.1⟩⟩
      ·
       replace c13 := Bool.eq_false_iff.mpr c13; subst c13; have H' := Aside0.mk (Eq.trans (if_neg nf_).symm H); clear H; obtain ⟨_, _, _, _, _, _, _, _, _, _, _, _⟩ := ce6_ BK441.1
       go_wp2_with (first | ((with_reducible refine gate_callee (f := 66) rfl ?_); refine goesL_ (some 5) rfl rfl Try.func66 kr_ rfl #[.slice A0_0 l0_0.length c0_0] rfl (bc_) ?_; (with_reducible refine (impl_AccountsOk.calls k _ _ l0_0 true _ ?side1 ?side2 A4.1).mono ?_); (case side1 => exact cc_ (Kd.C_below HR0_0.1 HB.1)); (case side2 => exact HC0_0.1); rintro e w27 ⟨rfl, hb⟩; refine ⟨_, rfl, ?_⟩; have n_ := as2_ (bl_ BK441.1 hb) (below_step (bg_ GE441.1) hb); clear BK441 HB; obtain ⟨BK441, HB⟩ := n_; (try clear hb); obtain ⟨_, _, _, _, _, _, _, _, _, _, _, _⟩ := ce6_ BK441.1) | (go_at_call 67; (with_reducible refine (impl_InstrsOk.calls k _ _ l0_1 true _ ?side1 ?side2 A6.1).mono ?_); (case side1 => exact cc_ (Kd.C_below HR0_1.1 HB.1)); (case side2 => exact HC0_1.1); rintro e w29 ⟨rfl, hb⟩; have n_ := as2_ (bl_ BK441.1 hb) (below_step (bg_ GE441.1) hb); clear BK441 HB; obtain ⟨BK441, HB⟩ := n_; (try clear hb); obtain ⟨_, _, _, _, _, _, _, _, _, _, _, _⟩ := ce6_ BK441.1) | (go_at_call 68; (with_reducible refine (impl_BalsOk.calls k _ _ l0_2 true _ ?side1 ?side2 A8.1).mono ?_); (case side1 => exact cc_ (Kd.C_below HR0_2.1 HB.1)); (case side2 => exact HC0_2.1); rintro e w31 ⟨rfl, hb⟩; have n_ := as2_ (bl_ BK441.1 hb) (below_step (bg_ GE441.1) hb); clear BK441 HB; obtain ⟨BK441, HB⟩ := n_; (try clear hb); obtain ⟨_, _, _, _, _, _, _, _, _, _, _, _⟩ := ce6_ BK441.1) | (go_at_call 69; (with_reducible refine (impl_LotsOk.calls _ _ l0_3 true _ ?side1 ?side2 A10.1).mono ?_); (case side1 => exact cc_ (Kd.C_below HR0_3.1 HB.1)); (case side2 => exact HC0_3.1); rintro e w33 ⟨rfl, hb⟩; have n_ := as2_ (bl_ BK441.1 hb) (below_step (bg_ GE441.1) hb); clear BK441 HB; obtain ⟨BK441, HB⟩ := n_; (try clear hb); obtain ⟨_, _, _, _, _, _, _, _, _, _, _, _⟩ := ce6_ BK441.1) | (go_at_call 11; (with_reducible refine (impl_TradesOk.calls k _ _ l0_4 false _ ?side1 ?side2 A12.1).mono ?_); (case side1 => exact cc_ (Kd.C_below HR0_4.1 HB.1)); (case side2 => exact HC0_4.1); rintro e w35 ⟨rfl, hb⟩; have n_ := as2_ (bl_ BK441.1 hb) (below_step (bg_ GE441.1) hb); clear BK441 HB; obtain ⟨BK441, HB⟩ := n_; (try clear hb)))
       go_meet
       case rel => exact ⟨_, (true), (rs_), H', ⟨le_⟩, ⟨pb_ BK441.1⟩, ⟨bg_ GE441.1⟩⟩
     ·
      replace c11 := Bool.eq_false_iff.mpr c11; subst c11; have H' := Aside0.mk (Eq.trans (if_neg nf_).symm H); clear H; obtain ⟨_, _, _, _, _, _, _, _, _, _, _, _⟩ := ce6_ BK441.1
      go_wp2_with (first | ((with_reducible refine gate_callee (f := 66) rfl ?_); refine goesL_ (some 5) rfl rfl Try.func66 kr_ rfl #[.slice A0_0 l0_0.length c0_0] rfl (bc_) ?_; (with_reducible refine (impl_AccountsOk.calls k _ _ l0_0 true _ ?side1 ?side2 A4.1).mono ?_); (case side1 => exact cc_ (Kd.C_below HR0_0.1 HB.1)); (case side2 => exact HC0_0.1); rintro e w37 ⟨rfl, hb⟩; refine ⟨_, rfl, ?_⟩; have n_ := as2_ (bl_ BK441.1 hb) (below_step (bg_ GE441.1) hb); clear BK441 HB; obtain ⟨BK441, HB⟩ := n_; (try clear hb); obtain ⟨_, _, _, _, _, _, _, _, _, _, _, _⟩ := ce6_ BK441.1) | (go_at_call 67; (with_reducible refine (impl_InstrsOk.calls k _ _ l0_1 true _ ?side1 ?side2 A6.1).mono ?_); (case side1 => exact cc_ (Kd.C_below HR0_1.1 HB.1)); (case side2 => exact HC0_1.1); rintro e w39 ⟨rfl, hb⟩; have n_ := as2_ (bl_ BK441.1 hb) (below_step (bg_ GE441.1) hb); clear BK441 HB; obtain ⟨BK441, HB⟩ := n_; (try clear hb); obtain ⟨_, _, _, _, _, _, _, _, _, _, _, _⟩ := ce6_ BK441.1) | (go_at_call 68; (with_reducible refine (impl_BalsOk.calls k _ _ l0_2 true _ ?side1 ?side2 A8.1).mono ?_); (case side1 => exact cc_ (Kd.C_below HR0_2.1 HB.1)); (case side2 => exact HC0_2.1); rintro e w41 ⟨rfl, hb⟩; have n_ := as2_ (bl_ BK441.1 hb) (below_step (bg_ GE441.1) hb); clear BK441 HB; obtain ⟨BK441, HB⟩ := n_; (try clear hb); obtain ⟨_, _, _, _, _, _, _, _, _, _, _, _⟩ := ce6_ BK441.1) | (go_at_call 69; (with_reducible refine (impl_LotsOk.calls _ _ l0_3 false _ ?side1 ?side2 A10.1).mono ?_); (case side1 => exact cc_ (Kd.C_below HR0_3.1 HB.1)); (case side2 => exact HC0_3.1); rintro e w43 ⟨rfl, hb⟩; have n_ := as2_ (bl_ BK441.1 hb) (below_step (bg_ GE441.1) hb); clear BK441 HB; obtain ⟨BK441, HB⟩ := n_; (try clear hb)))
      go_meet
      case rel => exact ⟨_, (true), (rs_), H', ⟨le_⟩, ⟨pb_ BK441.1⟩, ⟨bg_ GE441.1⟩⟩
    ·
     replace c9 := Bool.eq_false_iff.mpr c9; subst c9; have H' := Aside0.mk (Eq.trans (if_neg nf_).symm H); clear H; obtain ⟨_, _, _, _, _, _, _, _, _, _, _, _⟩ := ce6_ BK441.1
     go_wp2_with (first | ((with_reducible refine gate_callee (f := 66) rfl ?_); refine goesL_ (some 5) rfl rfl Try.func66 kr_ rfl #[.slice A0_0 l0_0.length c0_0] rfl (bc_) ?_; (with_reducible refine (impl_AccountsOk.calls k _ _ l0_0 true _ ?side1 ?side2 A4.1).mono ?_); (case side1 => exact cc_ (Kd.C_below HR0_0.1 HB.1)); (case side2 => exact HC0_0.1); rintro e w45 ⟨rfl, hb⟩; refine ⟨_, rfl, ?_⟩; have n_ := as2_ (bl_ BK441.1 hb) (below_step (bg_ GE441.1) hb); clear BK441 HB; obtain ⟨BK441, HB⟩ := n_; (try clear hb); obtain ⟨_, _, _, _, _, _, _, _, _, _, _, _⟩ := ce6_ BK441.1) | (go_at_call 67; (with_reducible refine (impl_InstrsOk.calls k _ _ l0_1 true _ ?side1 ?side2 A6.1).mono ?_); (case side1 => exact cc_ (Kd.C_below HR0_1.1 HB.1)); (case side2 => exact HC0_1.1); rintro e w47 ⟨rfl, hb⟩; have n_ := as2_ (bl_ BK441.1 hb) (below_step (bg_ GE441.1) hb); clear BK441 HB; obtain ⟨BK441, HB⟩ := n_; (try clear hb); obtain ⟨_, _, _, _, _, _, _, _, _, _, _, _⟩ := ce6_ BK441.1) | (go_at_call 68; (with_reducible refine (impl_BalsOk.calls k _ _ l0_2 false _ ?side1 ?side2 A8.1).mono ?_); (case side1 => exact cc_ (Kd.C_below HR0_2.1 HB.1)); (case side2 => exact HC0_2.1); rintro e w49 ⟨rfl, hb⟩; have n_ := as2_ (bl_ BK441.1 hb) (below_step (bg_ GE441.1) hb); clear BK441 HB; obtain ⟨BK441, HB⟩ := n_; (try clear hb)))
     go_meet
     case rel => exact ⟨_, (true), (rs_), H', ⟨le_⟩, ⟨pb_ BK441.1⟩, ⟨bg_ GE441.1⟩⟩
   ·
    replace c7 := Bool.eq_false_iff.mpr c7; subst c7; have H' := Aside0.mk (Eq.trans (if_neg nf_).symm H); clear H; obtain ⟨_, _, _, _, _, _, _, _, _, _, _, _⟩ := ce6_ BK441.1; go_wp2_with (first | ((with_reducible refine gate_callee (f := 66) rfl ?_); refine goesL_ (some 5) rfl rfl Try.func66 kr_ rfl #[.slice A0_0 l0_0.length c0_0] rfl (bc_) ?_; (with_reducible refine (impl_AccountsOk.calls k _ _ l0_0 true _ ?side1 ?side2 A4.1).mono ?_); (case side1 => exact cc_ (Kd.C_below HR0_0.1 HB.1)); (case side2 => exact HC0_0.1); rintro e w51 ⟨rfl, hb⟩; refine ⟨_, rfl, ?_⟩; have n_ := as2_ (bl_ BK441.1 hb) (below_step (bg_ GE441.1) hb); clear BK441 HB; obtain ⟨BK441, HB⟩ := n_; (try clear hb); obtain ⟨_, _, _, _, _, _, _, _, _, _, _, _⟩ := ce6_ BK441.1) | (go_at_call 67; (with_reducible refine (impl_InstrsOk.calls k _ _ l0_1 false _ ?side1 ?side2 A6.1).mono ?_); (case side1 => exact cc_ (Kd.C_below HR0_1.1 HB.1)); (case side2 => exact HC0_1.1); rintro e w53 ⟨rfl, hb⟩; have n_ := as2_ (bl_ BK441.1 hb) (below_step (bg_ GE441.1) hb); clear BK441 HB; obtain ⟨BK441, HB⟩ := n_; (try clear hb)))
    go_meet
    case rel => exact ⟨_, (true), (rs_), H', ⟨le_⟩, ⟨pb_ BK441.1⟩, ⟨bg_ GE441.1⟩⟩
  ·
   replace c5 := Bool.eq_false_iff.mpr c5; subst c5; have H' := Aside0.mk (Eq.trans (if_neg nf_).symm H); clear H; obtain ⟨_, _, _, _, _, _, _, _, _, _, _, _⟩ := ce6_ BK441.1; go_wp2_with (first | ((with_reducible refine gate_callee (f := 66) rfl ?_); refine goesL_ (some 5) rfl rfl Try.func66 kr_ rfl #[.slice A0_0 l0_0.length c0_0] rfl (bc_) ?_; (with_reducible refine (impl_AccountsOk.calls k _ _ l0_0 false _ ?side1 ?side2 A4.1).mono ?_); (case side1 => exact cc_ (Kd.C_below HR0_0.1 HB.1)); (case side2 => exact HC0_0.1); rintro e w55 ⟨rfl, hb⟩; refine ⟨_, rfl, ?_⟩; have n_ := as2_ (bl_ BK441.1 hb) (below_step (bg_ GE441.1) hb); clear BK441 HB; obtain ⟨BK441, HB⟩ := n_; (try clear hb)))
   go_meet
   case rel => exact ⟨_, (true), (rs_), H', ⟨le_⟩, ⟨pb_ BK441.1⟩, ⟨bg_ GE441.1⟩⟩
 case rest =>
  clear HC2; try clear c1
  try clear c2
  try clear p2
  try clear c5
  try clear c6
  try clear c7
  try clear c9
  try clear c11
  try clear c13
  try clear c21
  obtain ⟨kq, x36_1, rfl, HA, HJ1, BK441, HB⟩ := hcut
  cases kq with
  | zero => exact absurd HA.1 (by simp [impl_BooksOk.j0])
  | succ kj1 =>
   have H := HA.1; clear HA; simp only [impl_BooksOk.j0] at H
   by_cases c56 : x36_1 = true
   ·
    subst c56; replace H := Eq.trans (if_pos rfl).symm H; obtain rfl := Option.some.inj H; go_wp2; go_ret; exact ⟨er_, bg_ GE441.1⟩
   ·
    replace c56 := Bool.eq_false_iff.mpr c56; subst c56; replace H := Eq.trans (if_neg nf_).symm H; replace H := Option.bind_eq_some_iff.mp H; obtain ⟨t448, A570, H⟩ := H; have A57 := Aside0.mk A570; clear A570
    by_cases c58 : t448 = true
    ·
     subst c58; replace H := Eq.trans (if_pos rfl).symm H; replace H := Option.bind_eq_some_iff.mp H; obtain ⟨t449, A590, H⟩ := H; have A59 := Aside0.mk A590; clear A590
     by_cases c60 : t449 = true
     ·
      subst c60; replace H := Eq.trans (if_pos rfl).symm H; replace H := Option.bind_eq_some_iff.mp H; obtain ⟨t450, A610, H⟩ := H; have A61 := Aside0.mk A610; clear A610; obtain rfl := Option.some.inj H; obtain ⟨_, _, _, _, _, _, _, _, _, _, _, _⟩ := ce6_ BK441.1
      go_wp2_with (first | ((with_reducible refine gate_callee (f := 70) rfl ?_); refine goesL_ (some 38) rfl rfl Try.func70 kr_ rfl #[.agg #[.slice A0_0 l0_0.length c0_0, .slice A0_1 l0_1.length c0_1, .slice A0_2 l0_2.length c0_2, .slice A0_3 l0_3.length c0_3, .slice A0_4 l0_4.length c0_4, .int .i64 a0_5]] rfl (bc_) ?_; (with_reducible refine (impl_balsRight.calls kj1 _ _ l0_0 _ _ l0_1 _ _ l0_2 _ _ l0_3 _ _ l0_4 a0_5 true _ ?side1 ?side2 ?side3 ?side4 ?side5 ?side6 ?side7 ?side8 ?side9 ?side10 A57.1).mono ?_); (case side1 => exact cc_ (Kd.C_below HR0_0.1 HB.1)); (case side2 => exact HC0_0.1); (case side3 => exact cc_ (Kd.C_below HR0_1.1 HB.1)); (case side4 => exact HC0_1.1); (case side5 => exact cc_ (Kd.C_below HR0_2.1 HB.1)); (case side6 => exact HC0_2.1); (case side7 => exact cc_ (Kd.C_below HR0_3.1 HB.1)); (case side8 => exact HC0_3.1); (case side9 => exact cc_ (Kd.C_below HR0_4.1 HB.1)); (case side10 => exact HC0_4.1); rintro e w63 ⟨rfl, hb⟩; refine ⟨_, rfl, ?_⟩; have n_ := as2_ (bl_ BK441.1 hb) (below_step (bg_ GE441.1) hb); clear BK441 HB; obtain ⟨BK441, HB⟩ := n_; (try clear hb); obtain ⟨_, _, _, _, _, _, _, _, _, _, _, _⟩ := ce6_ BK441.1) | (go_at_call 71; (with_reducible refine (impl_lotsRight.calls kj1 _ _ l0_0 _ _ l0_1 _ _ l0_2 _ _ l0_3 _ _ l0_4 a0_5 true _ ?side1 ?side2 ?side3 ?side4 ?side5 ?side6 ?side7 ?side8 ?side9 ?side10 A59.1).mono ?_); (case side1 => exact cc_ (Kd.C_below HR0_0.1 HB.1)); (case side2 => exact HC0_0.1); (case side3 => exact cc_ (Kd.C_below HR0_1.1 HB.1)); (case side4 => exact HC0_1.1); (case side5 => exact cc_ (Kd.C_below HR0_2.1 HB.1)); (case side6 => exact HC0_2.1); (case side7 => exact cc_ (Kd.C_below HR0_3.1 HB.1)); (case side8 => exact HC0_3.1); (case side9 => exact cc_ (Kd.C_below HR0_4.1 HB.1)); (case side10 => exact HC0_4.1); rintro e w65 ⟨rfl, hb⟩; have n_ := as2_ (bl_ BK441.1 hb) (below_step (bg_ GE441.1) hb); clear BK441 HB; obtain ⟨BK441, HB⟩ := n_; (try clear hb); obtain ⟨_, _, _, _, _, _, _, _, _, _, _, _⟩ := ce6_ BK441.1) | (go_at_call 72; (with_reducible refine (impl_tradesRight.calls _ _ l0_0 _ _ l0_1 _ _ l0_2 _ _ l0_3 _ _ l0_4 a0_5 t450 _ ?side1 ?side2 ?side3 ?side4 ?side5 ?side6 ?side7 ?side8 ?side9 ?side10 A61.1).mono ?_); (case side1 => exact cc_ (Kd.C_below HR0_0.1 HB.1)); (case side2 => exact HC0_0.1); (case side3 => exact cc_ (Kd.C_below HR0_1.1 HB.1)); (case side4 => exact HC0_1.1); (case side5 => exact cc_ (Kd.C_below HR0_2.1 HB.1)); (case side6 => exact HC0_2.1); (case side7 => exact cc_ (Kd.C_below HR0_3.1 HB.1)); (case side8 => exact HC0_3.1); (case side9 => exact cc_ (Kd.C_below HR0_4.1 HB.1)); (case side10 => exact HC0_4.1); rintro e w67 ⟨rfl, hb⟩; have n_ := as2_ (bl_ BK441.1 hb) (below_step (bg_ GE441.1) hb); clear BK441 HB; obtain ⟨BK441, HB⟩ := n_; (try clear hb)))
      go_ret; exact ⟨er_, bg_ GE441.1⟩
     ·
      replace c60 := Bool.eq_false_iff.mpr c60; subst c60; replace H := Eq.trans (if_neg nf_).symm H; obtain rfl := Option.some.inj H; obtain ⟨_, _, _, _, _, _, _, _, _, _, _, _⟩ := ce6_ BK441.1
      go_wp2_with (first | ((with_reducible refine gate_callee (f := 70) rfl ?_); refine goesL_ (some 38) rfl rfl Try.func70 kr_ rfl #[.agg #[.slice A0_0 l0_0.length c0_0, .slice A0_1 l0_1.length c0_1, .slice A0_2 l0_2.length c0_2, .slice A0_3 l0_3.length c0_3, .slice A0_4 l0_4.length c0_4, .int .i64 a0_5]] rfl (bc_) ?_; (with_reducible refine (impl_balsRight.calls kj1 _ _ l0_0 _ _ l0_1 _ _ l0_2 _ _ l0_3 _ _ l0_4 a0_5 true _ ?side1 ?side2 ?side3 ?side4 ?side5 ?side6 ?side7 ?side8 ?side9 ?side10 A57.1).mono ?_); (case side1 => exact cc_ (Kd.C_below HR0_0.1 HB.1)); (case side2 => exact HC0_0.1); (case side3 => exact cc_ (Kd.C_below HR0_1.1 HB.1)); (case side4 => exact HC0_1.1); (case side5 => exact cc_ (Kd.C_below HR0_2.1 HB.1)); (case side6 => exact HC0_2.1); (case side7 => exact cc_ (Kd.C_below HR0_3.1 HB.1)); (case side8 => exact HC0_3.1); (case side9 => exact cc_ (Kd.C_below HR0_4.1 HB.1)); (case side10 => exact HC0_4.1); rintro e w69 ⟨rfl, hb⟩; refine ⟨_, rfl, ?_⟩; have n_ := as2_ (bl_ BK441.1 hb) (below_step (bg_ GE441.1) hb); clear BK441 HB; obtain ⟨BK441, HB⟩ := n_; (try clear hb); obtain ⟨_, _, _, _, _, _, _, _, _, _, _, _⟩ := ce6_ BK441.1) | (go_at_call 71; (with_reducible refine (impl_lotsRight.calls kj1 _ _ l0_0 _ _ l0_1 _ _ l0_2 _ _ l0_3 _ _ l0_4 a0_5 false _ ?side1 ?side2 ?side3 ?side4 ?side5 ?side6 ?side7 ?side8 ?side9 ?side10 A59.1).mono ?_); (case side1 => exact cc_ (Kd.C_below HR0_0.1 HB.1)); (case side2 => exact HC0_0.1); (case side3 => exact cc_ (Kd.C_below HR0_1.1 HB.1)); (case side4 => exact HC0_1.1); (case side5 => exact cc_ (Kd.C_below HR0_2.1 HB.1)); (case side6 => exact HC0_2.1); (case side7 => exact cc_ (Kd.C_below HR0_3.1 HB.1)); (case side8 => exact HC0_3.1); (case side9 => exact cc_ (Kd.C_below HR0_4.1 HB.1)); (case side10 => exact HC0_4.1); rintro e w71 ⟨rfl, hb⟩; have n_ := as2_ (bl_ BK441.1 hb) (below_step (bg_ GE441.1) hb); clear BK441 HB; obtain ⟨BK441, HB⟩ := n_; (try clear hb)))
      go_ret; exact ⟨er_, bg_ GE441.1⟩
    ·
     replace c58 := Bool.eq_false_iff.mpr c58; subst c58; replace H := Eq.trans (if_neg nf_).symm H; obtain rfl := Option.some.inj H; obtain ⟨_, _, _, _, _, _, _, _, _, _, _, _⟩ := ce6_ BK441.1; go_wp2_with (first | ((with_reducible refine gate_callee (f := 70) rfl ?_); refine goesL_ (some 38) rfl rfl Try.func70 kr_ rfl #[.agg #[.slice A0_0 l0_0.length c0_0, .slice A0_1 l0_1.length c0_1, .slice A0_2 l0_2.length c0_2, .slice A0_3 l0_3.length c0_3, .slice A0_4 l0_4.length c0_4, .int .i64 a0_5]] rfl (bc_) ?_; (with_reducible refine (impl_balsRight.calls kj1 _ _ l0_0 _ _ l0_1 _ _ l0_2 _ _ l0_3 _ _ l0_4 a0_5 false _ ?side1 ?side2 ?side3 ?side4 ?side5 ?side6 ?side7 ?side8 ?side9 ?side10 A57.1).mono ?_); (case side1 => exact cc_ (Kd.C_below HR0_0.1 HB.1)); (case side2 => exact HC0_0.1); (case side3 => exact cc_ (Kd.C_below HR0_1.1 HB.1)); (case side4 => exact HC0_1.1); (case side5 => exact cc_ (Kd.C_below HR0_2.1 HB.1)); (case side6 => exact HC0_2.1); (case side7 => exact cc_ (Kd.C_below HR0_3.1 HB.1)); (case side8 => exact HC0_3.1); (case side9 => exact cc_ (Kd.C_below HR0_4.1 HB.1)); (case side10 => exact HC0_4.1); rintro e w73 ⟨rfl, hb⟩; refine ⟨_, rfl, ?_⟩; have n_ := as2_ (bl_ BK441.1 hb) (below_step (bg_ GE441.1) hb); clear BK441 HB; obtain ⟨BK441, HB⟩ := n_; (try clear hb)))
     go_ret; exact ⟨er_, bg_ GE441.1⟩
end Go.Proofs.Ytmfgajbkcnlkcaa.P
namespace Go.Proofs.Ytmfgajbkcnlkcaa
section
open Go Go.RowKit Go.Proofs.YtmfgajbkcnlkcaaW.PrintWords Go.Proofs.YtmfgajbkcnlkcaaW.PrintLast Go.Proofs.YtmfgajbkcnlkcaaW.PrintMore
theorem as12_ {p0 p1 p2 p3 p4 p5 p6 p7 p8 p9 p10 p11 : Prop} (x0 : p0) (x1 : p1) (x2 : p2) (x3 : p3) (x4 : p4) (x5 : p5) (x6 : p6) (x7 : p7) (x8 : p8) (x9 : p9) (x10 : p10) (x11 : p11) : Aside0 p0 ∧ Aside0 p1 ∧ Aside0 p2 ∧ Aside0 p3 ∧ Aside0 p4 ∧ Aside0 p5 ∧ Aside0 p6 ∧ Aside0 p7 ∧ Aside0 p8 ∧ Aside0 p9 ∧ Aside0 p10 ∧ Aside0 p11 := ⟨⟨x0⟩, ⟨x1⟩, ⟨x2⟩, ⟨x3⟩, ⟨x4⟩, ⟨x5⟩, ⟨x6⟩, ⟨x7⟩, ⟨x8⟩, ⟨x9⟩, ⟨x10⟩, ⟨x11⟩⟩
theorem as13_ {p0 p1 p2 p3 p4 p5 p6 p7 p8 p9 p10 p11 p12 : Prop} (x0 : p0) (x1 : p1) (x2 : p2) (x3 : p3) (x4 : p4) (x5 : p5) (x6 : p6) (x7 : p7) (x8 : p8) (x9 : p9) (x10 : p10) (x11 : p11) (x12 : p12) : Aside0 p0 ∧ Aside0 p1 ∧ Aside0 p2 ∧ Aside0 p3 ∧ Aside0 p4 ∧ Aside0 p5 ∧ Aside0 p6 ∧ Aside0 p7 ∧ Aside0 p8 ∧ Aside0 p9 ∧ Aside0 p10 ∧ Aside0 p11 ∧ Aside0 p12 := ⟨⟨x0⟩, ⟨x1⟩, ⟨x2⟩, ⟨x3⟩, ⟨x4⟩, ⟨x5⟩, ⟨x6⟩, ⟨x7⟩, ⟨x8⟩, ⟨x9⟩, ⟨x10⟩, ⟨x11⟩, ⟨x12⟩⟩
theorem gh_ {q : Prop} {g : Nat} {w W : World} (hg : g = W.heap.size) (k : q) (h : q → Below w.heap.size w W := by intro g_; repeat (first | (with_reducible first | exact HB.out | apply below_alloc | apply pw_below_drewN | apply below_drew1 | refine below_set ?_ g_) | exact HB.out)) : w.heap.size ≤ g := by rw [hg]; exact below_size (h k)
end
end Go.Proofs.Ytmfgajbkcnlkcaa
namespace Go.Proofs.Ytmfgajbkcnlkcaa.P
open Go.RowKit Go.Proofs.YtmfgajbkcnlkcaaW.PrintWords Go.Proofs.YtmfgajbkcnlkcaaW.PrintLast Go.Proofs.YtmfgajbkcnlkcaaW.PrintMore
attribute [local go_sem] max2_int min2_int max_two min_two max_three min_three max_four min_four   -- for this text's walks alone
set_option linter.unusedVariables false
set_option linter.unusedSimpArgs false
def laws_FnExactBooksOk.f (k : Nat) (l0_0 : List (S106)) (l0_1 : List (S108)) (l0_2 : List (S110)) (l0_3 : List (S112)) (l0_4 : List (S64)) (a0_5 : Int) : Option (Bool) := (laws_szBooks.f l0_0 l0_1 l0_2 l0_3 l0_4 a0_5 1048576).bind fun t452 => (if t452 < 0 then (some true) else ((laws_toBooks.f k l0_0 l0_1 l0_2 l0_3 l0_4 a0_5).bind fun bt453 => ((spec_BooksOk.f k bt453.1 bt453.2.1 bt453.2.2.1 bt453.2.2.2.1 bt453.2.2.2.2.1 bt453.2.2.2.2.2).bind fun t469 => ((laws_toBooks.f k l0_0 l0_1 l0_2 l0_3 l0_4 a0_5).bind fun bt470 => ((impl_BooksOk.f k bt470.1 bt470.2.1 bt470.2.2.1 bt470.2.2.2.1 bt470.2.2.2.2.1 bt470.2.2.2.2.2).bind fun t487 => (if (t487 != t469) = true then (none) else ((laws_toBooks.f k l0_0 l0_1 l0_2 l0_3 l0_4 a0_5).bind fun bt488 => ((laws_eqBooks.f k bt470.1 bt470.2.1 bt470.2.2.1 bt470.2.2.2.1 bt470.2.2.2.2.1 bt470.2.2.2.2.2 bt488.1 bt488.2.1 bt488.2.2.1 bt488.2.2.2.1 bt488.2.2.2.2.1 bt488.2.2.2.2.2).bind fun t504 => (if t504 = true then (some true) else (none))))))))))
theorem laws_FnExactBooksOk.calls (k : Nat) (A0_0 : Option Addr) (c0_0 : Nat) (l0_0 : List (S106)) (A0_1 : Option Addr) (c0_1 : Nat) (l0_1 : List (S108)) (A0_2 : Option Addr) (c0_2 : Nat) (l0_2 : List (S110)) (A0_3 : Option Addr) (c0_3 : Nat) (l0_3 : List (S112)) (A0_4 : Option Addr) (c0_4 : Nat) (l0_4 : List (S64)) (a0_5 : Int) (r : Bool) (w : World) (hr0_0 : Kd.C k106 w A0_0 l0_0.length l0_0) (hc0_0 : l0_0.length ≤ c0_0) (hr0_1 : Kd.C k108 w A0_1 l0_1.length l0_1) (hc0_1 : l0_1.length ≤ c0_1) (hr0_2 : Kd.C k110 w A0_2 l0_2.length l0_2) (hc0_2 : l0_2.length ≤ c0_2) (hr0_3 : Kd.C k112 w A0_3 l0_3.length l0_3) (hc0_3 : l0_3.length ≤ c0_3) (hr0_4 : Kd.C k64 w A0_4 l0_4.length l0_4) (hc0_4 : l0_4.length ≤ c0_4) (h : laws_FnExactBooksOk.f k l0_0 l0_1 l0_2 l0_3 l0_4 a0_5 = some r) :
 Calls Try.prog 5 #[.agg #[.slice A0_0 l0_0.length c0_0, .slice A0_1 l0_1.length c0_1, .slice A0_2 l0_2.length c0_2, .slice A0_3 l0_3.length c0_3, .slice A0_4 l0_4.length c0_4, .int .i64 a0_5]] w fun e w' => e = .returned (.bool r) ∧ Below w.heap.size w w' := by
 have hu44 := Try.underlying44; have hu34 := Try.underlying34; have HR0_0 := Aside0.mk hr0_0; have HC0_0 := Aside0.mk hc0_0; clear hr0_0 hc0_0; have HR0_1 := Aside0.mk hr0_1; have HC0_1 := Aside0.mk hc0_1; clear hr0_1 hc0_1; have HR0_2 := Aside0.mk hr0_2; have HC0_2 := Aside0.mk hc0_2; clear hr0_2 hc0_2; have HR0_3 := Aside0.mk hr0_3; have HC0_3 := Aside0.mk hc0_3; clear hr0_3 hc0_3; have HR0_4 := Aside0.mk hr0_4; have HC0_4 := Aside0.mk hc0_4; clear hr0_4 hc0_4; have HB := Aside0.mk (Below.refl w.heap.size w); have H : ((laws_szBooks.f l0_0 l0_1 l0_2 l0_3 l0_4 a0_5 1048576).bind fun t452 => (if t452 < 0 then (some true) else ((laws_toBooks.f k l0_0 l0_1 l0_2 l0_3 l0_4 a0_5).bind fun bt453 => ((spec_BooksOk.f k bt453.1 bt453.2.1 bt453.2.2.1 bt453.2.2.2.1 bt453.2.2.2.2.1 bt453.2.2.2.2.2).bind fun t469 => ((laws_toBooks.f k l0_0 l0_1 l0_2 l0_3 l0_4 a0_5).bind fun bt470 => ((impl_BooksOk.f k bt470.1 bt470.2.1 bt470.2.2.1 bt470.2.2.2.1 bt470.2.2.2.2.1 bt470.2.2.2.2.2).bind fun t487 => (if (t487 != t469) = true then (none) else ((laws_toBooks.f k l0_0 l0_1 l0_2 l0_3 l0_4 a0_5).bind fun bt488 => ((laws_eqBooks.f k bt470.1 bt470.2.1 bt470.2.2.1 bt470.2.2.2.1 bt470.2.2.2.2.1 bt470.2.2.2.2.2 bt488.1 bt488.2.1 bt488.2.2.1 bt488.2.2.2.1 bt488.2.2.2.2.1 bt488.2.2.2.2.2).bind fun t504 => (if t504 = true then (some true) else (none))))))))))) = some r := h; clear h; replace H := Option.bind_eq_some_iff.mp H; obtain ⟨t452, A20, H⟩ := H; have A2 := Aside0.mk A20; clear A20
 by_cases c3 : t452 < 0
 ·
  rw [if_pos c3] at H; have c3b0 : decide (t452 < 0) = true := decide_eq_true c3; clear c3; obtain rfl := Option.some.inj H; go_enter Try.func5, Try.ntmps5
  go_wp2_with (first | ((with_reducible refine gate_dst (N := 1) rfl ?_); refine be_ 1 (cs := #[.slice A0_0 l0_0.length c0_0, .slice A0_1 l0_1.length c0_1, .slice A0_2 l0_2.length c0_2, .slice A0_3 l0_3.length c0_3, .slice A0_4 l0_4.length c0_4, .int .i64 a0_5]) (t := 44) ?_; intro gb451 hg w4 hbox hb; have n_ := bx_ hg hbox hb; clear HB; obtain ⟨HB, BK451, GW451, GE451⟩ := n_; clear hb hbox hg; obtain ⟨_, _, _, _, _, _, _, _, _, _, _, _⟩ := ce6_ BK451.1) | ((with_reducible refine gate_callee (f := 18) rfl ?_); refine goesL_ (some 9) rfl rfl Try.func18 kr_ rfl #[.agg #[.slice A0_0 l0_0.length c0_0, .slice A0_1 l0_1.length c0_1, .slice A0_2 l0_2.length c0_2, .slice A0_3 l0_3.length c0_3, .slice A0_4 l0_4.length c0_4, .int .i64 a0_5], .int .i64 1048576] rfl (bc_) ?_; (with_reducible refine (laws_szBooks.calls _ _ l0_0 _ _ l0_1 _ _ l0_2 _ _ l0_3 _ _ l0_4 a0_5 1048576 t452 _ ?side1 ?side2 ?side3 ?side4 ?side5 ?side6 ?side7 ?side8 ?side9 ?side10 A2.1).mono ?_); (case side1 => exact cc_ (Kd.C_below HR0_0.1 HB.1)); (case side2 => exact HC0_0.1); (case side3 => exact cc_ (Kd.C_below HR0_1.1 HB.1)); (case side4 => exact HC0_1.1); (case side5 => exact cc_ (Kd.C_below HR0_2.1 HB.1)); (case side6 => exact HC0_2.1); (case side7 => exact cc_ (Kd.C_below HR0_3.1 HB.1)); (case side8 => exact HC0_3.1); (case side9 => exact cc_ (Kd.C_below HR0_4.1 HB.1)); (case side10 => exact HC0_4.1); rintro e w6 ⟨rfl, hb⟩; refine ⟨_, rfl, ?_⟩; have n_ := as2_ (bl_ BK451.1 hb) (below_step (bg_ GE451.1) hb); clear BK451 HB; obtain ⟨BK451, HB⟩ := n_; (try clear hb)))
  go_ret; exact ⟨er_, bg_ GE451.1⟩
 ·
  rw [if_neg c3] at H; have c3b0 : decide (t452 < 0) = false := decide_eq_false c3; clear c3; replace H := Option.bind_eq_some_iff.mp H; obtain ⟨⟨t453, t456, t459, t462, t465, t468⟩, A70, H⟩ := H; replace H : ((spec_BooksOk.f k t453 t456 t459 t462 t465 t468).bind fun t469 => ((laws_toBooks.f k l0_0 l0_1 l0_2 l0_3 l0_4 a0_5).bind fun bt470 => ((impl_BooksOk.f k bt470.1 bt470.2.1 bt470.2.2.1 bt470.2.2.2.1 bt470.2.2.2.2.1 bt470.2.2.2.2.2).bind fun t487 => (if (t487 != t469) = true then (none) else ((laws_toBooks.f k l0_0 l0_1 l0_2 l0_3 l0_4 a0_5).bind fun bt488 => ((laws_eqBooks.f k bt470.1 bt470.2.1 bt470.2.2.1 bt470.2.2.2.1 bt470.2.2.2.2.1 bt470.2.2.2.2.2 bt488.1 bt488.2.1 bt488.2.2.1 bt488.2.2.2.1 bt488.2.2.2.2.1 bt488.2.2.2.2.2).bind fun t504 => (if t504 = true then (some true) else (none)))))))) = some r := H; have A7 := Aside0.mk A70; clear A70; replace H := Option.bind_eq_some_iff.mp H; obtain ⟨t469, A80, H⟩ := H; have A8 := Aside0.mk A80; clear A80; replace H := Option.bind_eq_some_iff.mp H; obtain ⟨⟨t470, t473, t476, t479, t482, t485⟩, A90, H⟩ := H; replace H : ((impl_BooksOk.f k t470 t473 t476 t479 t482 t485).bind fun t487 => (if (t487 != t469) = true then (none) else ((laws_toBooks.f k l0_0 l0_1 l0_2 l0_3 l0_4 a0_5).bind fun bt488 => ((laws_eqBooks.f k t470 t473 t476 t479 t482 t485 bt488.1 bt488.2.1 bt488.2.2.1 bt488.2.2.2.1 bt488.2.2.2.2.1 bt488.2.2.2.2.2).bind fun t504 => (if t504 = true then (some true) else (none)))))) = some r := H; have A9 := Aside0.mk A90
  clear A90; replace H := Option.bind_eq_some_iff.mp H; obtain ⟨t487, A100, H⟩ := H; have A10 := Aside0.mk A100; clear A100
  by_cases c11 : (t487 != t469) = true
  ·
   rw [if_pos c11] at H; exact absurd H (by simp)
  ·
   rw [if_neg c11] at H; have c11b0 : (t487 != t469) = false := by simpa using c11
   (try (have c11b1 : decide (t487 = t469) = true := by simpa using c11))
   (try (have c11b2 : (t487 == t469) = true := by simpa using c11))
   clear c11; replace H := Option.bind_eq_some_iff.mp H; obtain ⟨⟨t488, t491, t494, t497, t500, t503⟩, A120, H⟩ := H; replace H : ((laws_eqBooks.f k t470 t473 t476 t479 t482 t485 t488 t491 t494 t497 t500 t503).bind fun t504 => (if t504 = true then (some true) else (none))) = some r := H; have A12 := Aside0.mk A120; clear A120; replace H := Option.bind_eq_some_iff.mp H; obtain ⟨t504, A130, H⟩ := H; have A13 := Aside0.mk A130; clear A130
   by_cases c14 : t504 = true
   ·
    subst c14; replace H := Eq.trans (if_pos rfl).symm H; obtain rfl := Option.some.inj H; go_enter Try.func5, Try.ntmps5
    try go_wp2_with (first | ((with_reducible refine gate_dst (N := 1) rfl ?_); refine be_ 1 (cs := #[.slice A0_0 l0_0.length c0_0, .slice A0_1 l0_1.length c0_1, .slice A0_2 l0_2.length c0_2, .slice A0_3 l0_3.length c0_3, .slice A0_4 l0_4.length c0_4, .int .i64 a0_5]) (t := 44) ?_; intro gb451 hg w15 hbox hb; have n_ := bx_ hg hbox hb; clear HB; obtain ⟨HB, BK451, GW451, GE451⟩ := n_; clear hb hbox hg; obtain ⟨_, _, _, _, _, _, _, _, _, _, _, _⟩ := ce6_ BK451.1) | ((with_reducible refine gate_callee (f := 18) rfl ?_); refine goesL_ (some 9) rfl rfl Try.func18 kr_ rfl #[.agg #[.slice A0_0 l0_0.length c0_0, .slice A0_1 l0_1.length c0_1, .slice A0_2 l0_2.length c0_2, .slice A0_3 l0_3.length c0_3, .slice A0_4 l0_4.length c0_4, .int .i64 a0_5], .int .i64 1048576] rfl (bc_) ?_; (with_reducible refine (laws_szBooks.calls _ _ l0_0 _ _ l0_1 _ _ l0_2 _ _ l0_3 _ _ l0_4 a0_5 1048576 t452 _ ?side1 ?side2 ?side3 ?side4 ?side5 ?side6 ?side7 ?side8 ?side9 ?side10 A2.1).mono ?_); (case side1 => exact cc_ (Kd.C_below HR0_0.1 HB.1)); (case side2 => exact HC0_0.1); (case side3 => exact cc_ (Kd.C_below HR0_1.1 HB.1)); (case side4 => exact HC0_1.1); (case side5 => exact cc_ (Kd.C_below HR0_2.1 HB.1)); (case side6 => exact HC0_2.1); (case side7 => exact cc_ (Kd.C_below HR0_3.1 HB.1)); (case side8 => exact HC0_3.1); (case side9 => exact cc_ (Kd.C_below HR0_4.1 HB.1)); (case side10 => exact HC0_4.1); rintro e w17 ⟨rfl, hb⟩; refine ⟨_, rfl, ?_⟩; have n_ := as2_ (bl_ BK451.1 hb) (below_step (bg_ GE451.1) hb); clear BK451 HB; obtain ⟨BK451, HB⟩ := n_; (try clear hb); obtain ⟨_, _, _, _, _, _, _, _, _, _, _, _⟩ := ce6_ BK451.1) | ((with_reducible refine gate_callee (f := 20) rfl ?_); refine goesL_ (some 13) rfl rfl Try.func20 kr_ rfl #[.agg #[.slice A0_0 l0_0.length c0_0, .slice A0_1 l0_1.length c0_1, .slice A0_2 l0_2.length c0_2, .slice A0_3 l0_3.length c0_3, .slice A0_4 l0_4.length c0_4, .int .i64 a0_5]] rfl (bc_) ?_; (with_reducible refine (laws_toBooks.calls k _ _ l0_0 _ _ l0_1 _ _ l0_2 _ _ l0_3 _ _ l0_4 a0_5 t453 t456 t459 t462 t465 t468 _ ?side1 ?side2 ?side3 ?side4 ?side5 ?side6 ?side7 ?side8 ?side9 ?side10 A7.1).mono ?_); (case side1 => exact cc_ (Kd.C_below HR0_0.1 HB.1)); (case side2 => exact HC0_0.1); (case side3 => exact cc_ (Kd.C_below HR0_1.1 HB.1)); (case side4 => exact HC0_1.1); (case side5 => exact cc_ (Kd.C_below HR0_2.1 HB.1)); (case side6 => exact HC0_2.1); (case side7 => exact cc_ (Kd.C_below HR0_3.1 HB.1)); (case side8 => exact HC0_3.1); (case side9 => exact cc_ (Kd.C_below HR0_4.1 HB.1)); (case side10 => exact HC0_4.1); rintro e w19 ⟨v454, v457, v460, v463, v466, rfl, ho0, ho1, ho2, ho3, ho4, hb⟩; refine ⟨_, rfl, ?_⟩; have n_ := as7_ (Kd.R_lower ho0 (below_size (bg_ GE451.1))) (Kd.R_lower ho1 (below_size (bg_ GE451.1))) (Kd.R_lower ho2 (below_size (bg_ GE451.1))) (Kd.R_lower ho3 (below_size (bg_ GE451.1))) (Kd.R_lower ho4 (below_size (bg_ GE451.1))) (bl_ BK451.1 hb) (below_step (bg_ GE451.1) hb); clear BK451 HB; obtain ⟨HO455, HO458, HO461, HO464, HO467, BK451, HB⟩ := n_; (try clear hb); (try clear ho0); (try clear ho1); (try clear ho2); (try clear ho3); (try clear ho4); obtain ⟨Ao20, co20, eo20⟩ := Kd.R_slice HO455.1; subst eo20; obtain ⟨Ao21, co21, eo21⟩ := Kd.R_slice HO458.1; subst eo21; obtain ⟨Ao22, co22, eo22⟩ := Kd.R_slice HO461.1; subst eo22; obtain ⟨Ao23, co23, eo23⟩ := Kd.R_slice HO464.1; subst eo23; obtain ⟨Ao24, co24, eo24⟩ := Kd.R_slice HO467.1; subst eo24) | ((with_reducible refine gate_callee (f := 19) rfl ?_); refine goesL_ (some 14) rfl rfl Try.func19 kr_ rfl #[.agg #[.slice Ao20 t453.length co20, .slice Ao21 t456.length co21, .slice Ao22 t459.length co22, .slice Ao23 t462.length co23, .slice Ao24 t465.length co24, .int .i64 t468]] rfl (bc_) ?_; (with_reducible refine (spec_BooksOk.calls k _ _ t453 _ _ t456 _ _ t459 _ _ t462 _ _ t465 t468 t469 _ ?side1 ?side2 ?side3 ?side4 ?side5 ?side6 ?side7 ?side8 ?side9 ?side10 A8.1).mono ?_); (case side1 => exact cc_ (Kd.R_reads' HO455.1).2.2); (case side2 => exact (Kd.R_reads' HO455.1).2.1); (case side3 => exact cc_ (Kd.R_reads' HO458.1).2.2); (case side4 => exact (Kd.R_reads' HO458.1).2.1); (case side5 => exact cc_ (Kd.R_reads' HO461.1).2.2); (case side6 => exact (Kd.R_reads' HO461.1).2.1); (case side7 => exact cc_ (Kd.R_reads' HO464.1).2.2); (case side8 => exact (Kd.R_reads' HO464.1).2.1); (case side9 => exact cc_ (Kd.R_reads' HO467.1).2.2); (case side10 => exact (Kd.R_reads' HO467.1).2.1); rintro e w25 ⟨rfl, hb⟩; refine ⟨_, rfl, ?_⟩; have n_ := as7_ (Kd.R_below (pe_ HO455.1) hb) (Kd.R_below (pe_ HO458.1) hb) (Kd.R_below (pe_ HO461.1) hb) (Kd.R_below (pe_ HO464.1) hb) (Kd.R_below (pe_ HO467.1) hb) (bl_ BK451.1 hb) (below_step (bg_ GE451.1) hb); clear HO455 HO458 HO461 HO464 HO467 BK451 HB; obtain ⟨HO455, HO458, HO461, HO464, HO467, BK451, HB⟩ := n_; (try clear hb); obtain ⟨_, _, _, _, _, _, _, _, _, _, _, _⟩ := ce6_ BK451.1) | ((with_reducible refine gate_callee (f := 20) rfl ?_); refine goesL_ (some 16) rfl rfl Try.func20 kr_ rfl #[.agg #[.slice A0_0 l0_0.length c0_0, .slice A0_1 l0_1.length c0_1, .slice A0_2 l0_2.length c0_2, .slice A0_3 l0_3.length c0_3, .slice A0_4 l0_4.length c0_4, .int .i64 a0_5]] rfl (bc_) ?_; (with_reducible refine (laws_toBooks.calls k _ _ l0_0 _ _ l0_1 _ _ l0_2 _ _ l0_3 _ _ l0_4 a0_5 t470 t473 t476 t479 t482 t485 _ ?side1 ?side2 ?side3 ?side4 ?side5 ?side6 ?side7 ?side8 ?side9 ?side10 A9.1).mono ?_); (case side1 => exact cc_ (Kd.C_below HR0_0.1 HB.1)); (case side2 => exact HC0_0.1); (case side3 => exact cc_ (Kd.C_below HR0_1.1 HB.1)); (case side4 => exact HC0_1.1); (case side5 => exact cc_ (Kd.C_below HR0_2.1 HB.1)); (case side6 => exact HC0_2.1); (case side7 => exact cc_ (Kd.C_below HR0_3.1 HB.1)); (case side8 => exact HC0_3.1); (case side9 => exact cc_ (Kd.C_below HR0_4.1 HB.1)); (case side10 => exact HC0_4.1); rintro e w27 ⟨v471, v474, v477, v480, v483, rfl, ho0, ho1, ho2, ho3, ho4, hb⟩; refine ⟨_, rfl, ?_⟩; have n_ := as12_ (Kd.R_elder' (pe_ HO455.1) (Kd.R_base ho0) hb) (Kd.R_elder' (pe_ HO458.1) (Kd.R_base ho1) hb) (Kd.R_elder' (pe_ HO461.1) (Kd.R_base ho2) hb) (Kd.R_elder' (pe_ HO464.1) (Kd.R_base ho3) hb) (Kd.R_elder' (pe_ HO467.1) (Kd.R_base ho4) hb) (Kd.R_lower (Kd.R_new' ho0 (Kd.R_lt (pe_ HO455.1))) (below_size (bg_ GE451.1))) (Kd.R_lower (Kd.R_new' ho1 (Kd.R_lt (pe_ HO458.1))) (below_size (bg_ GE451.1))) (Kd.R_lower (Kd.R_new' ho2 (Kd.R_lt (pe_ HO461.1))) (below_size (bg_ GE451.1))) (Kd.R_lower (Kd.R_new' ho3 (Kd.R_lt (pe_ HO464.1))) (below_size (bg_ GE451.1))) (Kd.R_lower (Kd.R_new' ho4 (Kd.R_lt (pe_ HO467.1))) (below_size (bg_ GE451.1))) (bl_ BK451.1 hb) (below_step (bg_ GE451.1) hb); clear HO455 HO458 HO461 HO464 HO467 BK451 HB; obtain ⟨HO455, HO458, HO461, HO464, HO467, HO472, HO475, HO478, HO481, HO484, BK451, HB⟩ := n_; (try clear hb); (try clear ho0); (try clear ho1); (try clear ho2); (try clear ho3); (try clear ho4)) | ((with_reducible refine gate_dst (N := 5) rfl ?_); refine be_ 5 (cs := #[.slice none 0 0, .slice none 0 0, .slice none 0 0, .slice none 0 0, .slice none 0 0, .int .i64 0]) (t := 34) ?_; intro gb486 hg w28 hbox hb; have n0_ := Aside0.mk (Kd.R_below (pe_ HO455.1) hb); have n1_ := Aside0.mk (Kd.R_below (pe_ HO458.1) hb); have n2_ := Aside0.mk (Kd.R_below (pe_ HO461.1) hb); have n3_ := Aside0.mk (Kd.R_below (pe_ HO464.1) hb); have n4_ := Aside0.mk (Kd.R_below (pe_ HO467.1) hb); have n5_ := Aside0.mk (Kd.R_below (pe_ HO472.1) hb); have n6_ := Aside0.mk (Kd.R_below (pe_ HO475.1) hb); have n7_ := Aside0.mk (Kd.R_below (pe_ HO478.1) hb); have n8_ := Aside0.mk (Kd.R_below (pe_ HO481.1) hb); have n9_ := Aside0.mk (Kd.R_below (pe_ HO484.1) hb); have n10_ := Aside0.mk (bl_ BK451.1 hb); have n11_ := Aside0.mk (below_step (bg_ GE451.1) hb); have n12_ := Aside0.mk (hbox); have n13_ := Aside0.mk ((gh_ hg GE451.1 : w.heap.size ≤ gb486)); have n14_ := Aside0.mk ((gh_ hg GE451.1 : w.heap.size ≤ gb486)); have n15_ := Aside0.mk ((nl_ hg BK451.1)); have n16_ := Aside0.mk ((ng_ hg BK451.1)); clear HO455; clear HO458; clear HO461; clear HO464; clear HO467; clear HO472; clear HO475; clear HO478; clear HO481; clear HO484; clear BK451; clear HB; have HO455 := n0_; have HO458 := n1_; have HO461 := n2_; have HO464 := n3_; have HO467 := n4_; have HO472 := n5_; have HO475 := n6_; have HO478 := n7_; have HO481 := n8_; have HO484 := n9_; have BK451 := n10_; have HB := n11_; have BK486 := n12_; have GW486 := n13_; have GE486 := n14_; have NB451_486 := n15_; have NB486_451 := n16_; clear n0_ n1_ n2_ n3_ n4_ n5_ n6_ n7_ n8_ n9_ n10_ n11_ n12_ n13_ n14_ n15_ n16_; clear hb hbox hg; obtain ⟨Ao29, co29, eo29⟩ := Kd.R_slice HO472.1; subst eo29; have hnb30 := NB486_451.1; have hnc30 := NB451_486.1; obtain ⟨_, _, _, _, _, _, _, _, _, _, _, _⟩ := ce6_ BK486.1; obtain ⟨Ao32, co32, eo32⟩ := Kd.R_slice HO475.1; subst eo32; obtain ⟨Ao33, co33, eo33⟩ := Kd.R_slice HO478.1; subst eo33; obtain ⟨Ao34, co34, eo34⟩ := Kd.R_slice HO481.1; subst eo34; obtain ⟨Ao35, co35, eo35⟩ := Kd.R_slice HO484.1; subst eo35) | ((with_reducible refine gate_callee (f := 21) rfl ?_); refine goesL_ (some 18) rfl rfl Try.func21 kr_ rfl #[.agg #[.slice Ao29 t470.length co29, .slice Ao32 t473.length co32, .slice Ao33 t476.length co33, .slice Ao34 t479.length co34, .slice Ao35 t482.length co35, .int .i64 t485]] rfl (bc_) ?_; (with_reducible refine (impl_BooksOk.calls k _ _ t470 _ _ t473 _ _ t476 _ _ t479 _ _ t482 t485 t487 _ ?side1 ?side2 ?side3 ?side4 ?side5 ?side6 ?side7 ?side8 ?side9 ?side10 A10.1).mono ?_); (case side1 => refine (Kd.R_reads' (e := 88) (base := w.heap.size) (ok := fun k_ => (True ∧ some k_ ≠ (.slice Ao20 t453.length co20 : Value).ownBlock)) (n := t470.length) (c := co29) ?_).2.2; exact (by (with_reducible repeat (first | apply Kd.R_alloc | apply Kd.R_drewN | apply Kd.R_drew)); exact (Kd.R_mono (Kd.R_far (p := ⟨gb486, 5, none⟩) (Kd.R_far (p := ⟨gb486, 4, none⟩) (Kd.R_far (p := ⟨gb486, 3, none⟩) (Kd.R_far (p := ⟨gb486, 2, none⟩) (Kd.R_far (p := ⟨gb486, 1, none⟩) (Kd.R_far (p := ⟨gb486, 0, none⟩) (Kd.R_types HO472.1 BK486.1 (by decide)) (fun _ hk => hk.2) (.slice Ao29 t470.length co29)) (fun _ hk => hk.2) (.slice Ao32 t473.length co32)) (fun _ hk => hk.2) (.slice Ao33 t476.length co33)) (fun _ hk => hk.2) (.slice Ao34 t479.length co34)) (fun _ hk => hk.2) (.slice Ao35 t482.length co35)) (fun _ hk => hk.2) (.int .i64 t485)) (fun _ h_ => h_.1)))); (case side2 => exact (Kd.R_reads' HO472.1).2.1); (case side3 => refine (Kd.R_reads' (e := 90) (base := w.heap.size) (ok := fun k_ => (True ∧ some k_ ≠ (.slice Ao21 t456.length co21 : Value).ownBlock)) (n := t473.length) (c := co32) ?_).2.2; exact (by (with_reducible repeat (first | apply Kd.R_alloc | apply Kd.R_drewN | apply Kd.R_drew)); exact (Kd.R_mono (Kd.R_far (p := ⟨gb486, 5, none⟩) (Kd.R_far (p := ⟨gb486, 4, none⟩) (Kd.R_far (p := ⟨gb486, 3, none⟩) (Kd.R_far (p := ⟨gb486, 2, none⟩) (Kd.R_far (p := ⟨gb486, 1, none⟩) (Kd.R_far (p := ⟨gb486, 0, none⟩) (Kd.R_types HO475.1 BK486.1 (by decide)) (fun _ hk => hk.2) (.slice Ao29 t470.length co29)) (fun _ hk => hk.2) (.slice Ao32 t473.length co32)) (fun _ hk => hk.2) (.slice Ao33 t476.length co33)) (fun _ hk => hk.2) (.slice Ao34 t479.length co34)) (fun _ hk => hk.2) (.slice Ao35 t482.length co35)) (fun _ hk => hk.2) (.int .i64 t485)) (fun _ h_ => h_.1)))); (case side4 => exact (Kd.R_reads' HO475.1).2.1); (case side5 => refine (Kd.R_reads' (e := 93) (base := w.heap.size) (ok := fun k_ => (True ∧ some k_ ≠ (.slice Ao22 t459.length co22 : Value).ownBlock)) (n := t476.length) (c := co33) ?_).2.2; exact (by (with_reducible repeat (first | apply Kd.R_alloc | apply Kd.R_drewN | apply Kd.R_drew)); exact (Kd.R_mono (Kd.R_far (p := ⟨gb486, 5, none⟩) (Kd.R_far (p := ⟨gb486, 4, none⟩) (Kd.R_far (p := ⟨gb486, 3, none⟩) (Kd.R_far (p := ⟨gb486, 2, none⟩) (Kd.R_far (p := ⟨gb486, 1, none⟩) (Kd.R_far (p := ⟨gb486, 0, none⟩) (Kd.R_types HO478.1 BK486.1 (by decide)) (fun _ hk => hk.2) (.slice Ao29 t470.length co29)) (fun _ hk => hk.2) (.slice Ao32 t473.length co32)) (fun _ hk => hk.2) (.slice Ao33 t476.length co33)) (fun _ hk => hk.2) (.slice Ao34 t479.length co34)) (fun _ hk => hk.2) (.slice Ao35 t482.length co35)) (fun _ hk => hk.2) (.int .i64 t485)) (fun _ h_ => h_.1)))); (case side6 => exact (Kd.R_reads' HO478.1).2.1); (case side7 => refine (Kd.R_reads' (e := 96) (base := w.heap.size) (ok := fun k_ => (True ∧ some k_ ≠ (.slice Ao23 t462.length co23 : Value).ownBlock)) (n := t479.length) (c := co34) ?_).2.2; exact (by (with_reducible repeat (first | apply Kd.R_alloc | apply Kd.R_drewN | apply Kd.R_drew)); exact (Kd.R_mono (Kd.R_far (p := ⟨gb486, 5, none⟩) (Kd.R_far (p := ⟨gb486, 4, none⟩) (Kd.R_far (p := ⟨gb486, 3, none⟩) (Kd.R_far (p := ⟨gb486, 2, none⟩) (Kd.R_far (p := ⟨gb486, 1, none⟩) (Kd.R_far (p := ⟨gb486, 0, none⟩) (Kd.R_types HO481.1 BK486.1 (by decide)) (fun _ hk => hk.2) (.slice Ao29 t470.length co29)) (fun _ hk => hk.2) (.slice Ao32 t473.length co32)) (fun _ hk => hk.2) (.slice Ao33 t476.length co33)) (fun _ hk => hk.2) (.slice Ao34 t479.length co34)) (fun _ hk => hk.2) (.slice Ao35 t482.length co35)) (fun _ hk => hk.2) (.int .i64 t485)) (fun _ h_ => h_.1)))); (case side8 => exact (Kd.R_reads' HO481.1).2.1); (case side9 => refine (Kd.R_reads' (e := 50) (base := w.heap.size) (ok := fun k_ => (True ∧ some k_ ≠ (.slice Ao24 t465.length co24 : Value).ownBlock)) (n := t482.length) (c := co35) ?_).2.2; exact (by (with_reducible repeat (first | apply Kd.R_alloc | apply Kd.R_drewN | apply Kd.R_drew)); exact (Kd.R_mono (Kd.R_far (p := ⟨gb486, 5, none⟩) (Kd.R_far (p := ⟨gb486, 4, none⟩) (Kd.R_far (p := ⟨gb486, 3, none⟩) (Kd.R_far (p := ⟨gb486, 2, none⟩) (Kd.R_far (p := ⟨gb486, 1, none⟩) (Kd.R_far (p := ⟨gb486, 0, none⟩) (Kd.R_types HO484.1 BK486.1 (by decide)) (fun _ hk => hk.2) (.slice Ao29 t470.length co29)) (fun _ hk => hk.2) (.slice Ao32 t473.length co32)) (fun _ hk => hk.2) (.slice Ao33 t476.length co33)) (fun _ hk => hk.2) (.slice Ao34 t479.length co34)) (fun _ hk => hk.2) (.slice Ao35 t482.length co35)) (fun _ hk => hk.2) (.int .i64 t485)) (fun _ h_ => h_.1)))); (case side10 => exact (Kd.R_reads' HO484.1).2.1); rintro e w36 ⟨rfl, hb⟩; refine ⟨_, rfl, ?_⟩; have n_ := as13_ (Kd.R_below (by (with_reducible repeat (first | apply Kd.R_alloc | apply Kd.R_drewN | apply Kd.R_drew)); exact (Kd.R_mono (Kd.R_far (p := ⟨gb486, 5, none⟩) (Kd.R_far (p := ⟨gb486, 4, none⟩) (Kd.R_far (p := ⟨gb486, 3, none⟩) (Kd.R_far (p := ⟨gb486, 2, none⟩) (Kd.R_far (p := ⟨gb486, 1, none⟩) (Kd.R_far (p := ⟨gb486, 0, none⟩) (Kd.R_types HO455.1 BK486.1 (by decide)) (fun _ hk => hk.2) (.slice Ao29 t470.length co29)) (fun _ hk => hk.2) (.slice Ao32 t473.length co32)) (fun _ hk => hk.2) (.slice Ao33 t476.length co33)) (fun _ hk => hk.2) (.slice Ao34 t479.length co34)) (fun _ hk => hk.2) (.slice Ao35 t482.length co35)) (fun _ hk => hk.2) (.int .i64 t485)) (fun _ h_ => h_.1))) hb) (Kd.R_below (by (with_reducible repeat (first | apply Kd.R_alloc | apply Kd.R_drewN | apply Kd.R_drew)); exact (Kd.R_mono (Kd.R_far (p := ⟨gb486, 5, none⟩) (Kd.R_far (p := ⟨gb486, 4, none⟩) (Kd.R_far (p := ⟨gb486, 3, none⟩) (Kd.R_far (p := ⟨gb486, 2, none⟩) (Kd.R_far (p := ⟨gb486, 1, none⟩) (Kd.R_far (p := ⟨gb486, 0, none⟩) (Kd.R_types HO458.1 BK486.1 (by decide)) (fun _ hk => hk.2) (.slice Ao29 t470.length co29)) (fun _ hk => hk.2) (.slice Ao32 t473.length co32)) (fun _ hk => hk.2) (.slice Ao33 t476.length co33)) (fun _ hk => hk.2) (.slice Ao34 t479.length co34)) (fun _ hk => hk.2) (.slice Ao35 t482.length co35)) (fun _ hk => hk.2) (.int .i64 t485)) (fun _ h_ => h_.1))) hb) (Kd.R_below (by (with_reducible repeat (first | apply Kd.R_alloc | apply Kd.R_drewN | apply Kd.R_drew)); exact (Kd.R_mono (Kd.R_far (p := ⟨gb486, 5, none⟩) (Kd.R_far (p := ⟨gb486, 4, none⟩) (Kd.R_far (p := ⟨gb486, 3, none⟩) (Kd.R_far (p := ⟨gb486, 2, none⟩) (Kd.R_far (p := ⟨gb486, 1, none⟩) (Kd.R_far (p := ⟨gb486, 0, none⟩) (Kd.R_types HO461.1 BK486.1 (by decide)) (fun _ hk => hk.2) (.slice Ao29 t470.length co29)) (fun _ hk => hk.2) (.slice Ao32 t473.length co32)) (fun _ hk => hk.2) (.slice Ao33 t476.length co33)) (fun _ hk => hk.2) (.slice Ao34 t479.length co34)) (fun _ hk => hk.2) (.slice Ao35 t482.length co35)) (fun _ hk => hk.2) (.int .i64 t485)) (fun _ h_ => h_.1))) hb) (Kd.R_below (by (with_reducible repeat (first | apply Kd.R_alloc | apply Kd.R_drewN | apply Kd.R_drew)); exact (Kd.R_mono (Kd.R_far (p := ⟨gb486, 5, none⟩) (Kd.R_far (p := ⟨gb486, 4, none⟩) (Kd.R_far (p := ⟨gb486, 3, none⟩) (Kd.R_far (p := ⟨gb486, 2, none⟩) (Kd.R_far (p := ⟨gb486, 1, none⟩) (Kd.R_far (p := ⟨gb486, 0, none⟩) (Kd.R_types HO464.1 BK486.1 (by decide)) (fun _ hk => hk.2) (.slice Ao29 t470.length co29)) (fun _ hk => hk.2) (.slice Ao32 t473.length co32)) (fun _ hk => hk.2) (.slice Ao33 t476.length co33)) (fun _ hk => hk.2) (.slice Ao34 t479.length co34)) (fun _ hk => hk.2) (.slice Ao35 t482.length co35)) (fun _ hk => hk.2) (.int .i64 t485)) (fun _ h_ => h_.1))) hb) (Kd.R_below (by (with_reducible repeat (first | apply Kd.R_alloc | apply Kd.R_drewN | apply Kd.R_drew)); exact (Kd.R_mono (Kd.R_far (p := ⟨gb486, 5, none⟩) (Kd.R_far (p := ⟨gb486, 4, none⟩) (Kd.R_far (p := ⟨gb486, 3, none⟩) (Kd.R_far (p := ⟨gb486, 2, none⟩) (Kd.R_far (p := ⟨gb486, 1, none⟩) (Kd.R_far (p := ⟨gb486, 0, none⟩) (Kd.R_types HO467.1 BK486.1 (by decide)) (fun _ hk => hk.2) (.slice Ao29 t470.length co29)) (fun _ hk => hk.2) (.slice Ao32 t473.length co32)) (fun _ hk => hk.2) (.slice Ao33 t476.length co33)) (fun _ hk => hk.2) (.slice Ao34 t479.length co34)) (fun _ hk => hk.2) (.slice Ao35 t482.length co35)) (fun _ hk => hk.2) (.int .i64 t485)) (fun _ h_ => h_.1))) hb) (Kd.R_below (by (with_reducible repeat (first | apply Kd.R_alloc | apply Kd.R_drewN | apply Kd.R_drew)); exact (Kd.R_mono (Kd.R_far (p := ⟨gb486, 5, none⟩) (Kd.R_far (p := ⟨gb486, 4, none⟩) (Kd.R_far (p := ⟨gb486, 3, none⟩) (Kd.R_far (p := ⟨gb486, 2, none⟩) (Kd.R_far (p := ⟨gb486, 1, none⟩) (Kd.R_far (p := ⟨gb486, 0, none⟩) (Kd.R_types HO472.1 BK486.1 (by decide)) (fun _ hk => hk.2) (.slice Ao29 t470.length co29)) (fun _ hk => hk.2) (.slice Ao32 t473.length co32)) (fun _ hk => hk.2) (.slice Ao33 t476.length co33)) (fun _ hk => hk.2) (.slice Ao34 t479.length co34)) (fun _ hk => hk.2) (.slice Ao35 t482.length co35)) (fun _ hk => hk.2) (.int .i64 t485)) (fun _ h_ => h_.1))) hb) (Kd.R_below (by (with_reducible repeat (first | apply Kd.R_alloc | apply Kd.R_drewN | apply Kd.R_drew)); exact (Kd.R_mono (Kd.R_far (p := ⟨gb486, 5, none⟩) (Kd.R_far (p := ⟨gb486, 4, none⟩) (Kd.R_far (p := ⟨gb486, 3, none⟩) (Kd.R_far (p := ⟨gb486, 2, none⟩) (Kd.R_far (p := ⟨gb486, 1, none⟩) (Kd.R_far (p := ⟨gb486, 0, none⟩) (Kd.R_types HO475.1 BK486.1 (by decide)) (fun _ hk => hk.2) (.slice Ao29 t470.length co29)) (fun _ hk => hk.2) (.slice Ao32 t473.length co32)) (fun _ hk => hk.2) (.slice Ao33 t476.length co33)) (fun _ hk => hk.2) (.slice Ao34 t479.length co34)) (fun _ hk => hk.2) (.slice Ao35 t482.length co35)) (fun _ hk => hk.2) (.int .i64 t485)) (fun _ h_ => h_.1))) hb) (Kd.R_below (by (with_reducible repeat (first | apply Kd.R_alloc | apply Kd.R_drewN | apply Kd.R_drew)); exact (Kd.R_mono (Kd.R_far (p := ⟨gb486, 5, none⟩) (Kd.R_far (p := ⟨gb486, 4, none⟩) (Kd.R_far (p := ⟨gb486, 3, none⟩) (Kd.R_far (p := ⟨gb486, 2, none⟩) (Kd.R_far (p := ⟨gb486, 1, none⟩) (Kd.R_far (p := ⟨gb486, 0, none⟩) (Kd.R_types HO478.1 BK486.1 (by decide)) (fun _ hk => hk.2) (.slice Ao29 t470.length co29)) (fun _ hk => hk.2) (.slice Ao32 t473.length co32)) (fun _ hk => hk.2) (.slice Ao33 t476.length co33)) (fun _ hk => hk.2) (.slice Ao34 t479.length co34)) (fun _ hk => hk.2) (.slice Ao35 t482.length co35)) (fun _ hk => hk.2) (.int .i64 t485)) (fun _ h_ => h_.1))) hb) (Kd.R_below (by (with_reducible repeat (first | apply Kd.R_alloc | apply Kd.R_drewN | apply Kd.R_drew)); exact (Kd.R_mono (Kd.R_far (p := ⟨gb486, 5, none⟩) (Kd.R_far (p := ⟨gb486, 4, none⟩) (Kd.R_far (p := ⟨gb486, 3, none⟩) (Kd.R_far (p := ⟨gb486, 2, none⟩) (Kd.R_far (p := ⟨gb486, 1, none⟩) (Kd.R_far (p := ⟨gb486, 0, none⟩) (Kd.R_types HO481.1 BK486.1 (by decide)) (fun _ hk => hk.2) (.slice Ao29 t470.length co29)) (fun _ hk => hk.2) (.slice Ao32 t473.length co32)) (fun _ hk => hk.2) (.slice Ao33 t476.length co33)) (fun _ hk => hk.2) (.slice Ao34 t479.length co34)) (fun _ hk => hk.2) (.slice Ao35 t482.length co35)) (fun _ hk => hk.2) (.int .i64 t485)) (fun _ h_ => h_.1))) hb) (Kd.R_below (by (with_reducible repeat (first | apply Kd.R_alloc | apply Kd.R_drewN | apply Kd.R_drew)); exact (Kd.R_mono (Kd.R_far (p := ⟨gb486, 5, none⟩) (Kd.R_far (p := ⟨gb486, 4, none⟩) (Kd.R_far (p := ⟨gb486, 3, none⟩) (Kd.R_far (p := ⟨gb486, 2, none⟩) (Kd.R_far (p := ⟨gb486, 1, none⟩) (Kd.R_far (p := ⟨gb486, 0, none⟩) (Kd.R_types HO484.1 BK486.1 (by decide)) (fun _ hk => hk.2) (.slice Ao29 t470.length co29)) (fun _ hk => hk.2) (.slice Ao32 t473.length co32)) (fun _ hk => hk.2) (.slice Ao33 t476.length co33)) (fun _ hk => hk.2) (.slice Ao34 t479.length co34)) (fun _ hk => hk.2) (.slice Ao35 t482.length co35)) (fun _ hk => hk.2) (.int .i64 t485)) (fun _ h_ => h_.1))) hb) (blk_below (g := gb451) (o := .cells #[.slice A0_0 l0_0.length c0_0, .slice A0_1 l0_1.length c0_1, .slice A0_2 l0_2.length c0_2, .slice A0_3 l0_3.length c0_3, .slice A0_4 l0_4.length c0_4, .int .i64 a0_5] 44 (0, 0)) (by refine pf_ NB451_486.1 ?_; refine pf_ NB451_486.1 ?_; refine pf_ NB451_486.1 ?_; refine pf_ NB451_486.1 ?_; refine pf_ NB451_486.1 ?_; refine pf_ NB451_486.1 ?_; exact pb_ BK451.1) hb) (blk_below (g := gb486) (o := .cells #[.slice Ao29 t470.length co29, .slice Ao32 t473.length co32, .slice Ao33 t476.length co33, .slice Ao34 t479.length co34, .slice Ao35 t482.length co35, .int .i64 t485] 34 (0, 0)) (by refine pc_ (blk_put (cs := #[.slice Ao29 t470.length co29, .slice Ao32 t473.length co32, .slice Ao33 t476.length co33, .slice Ao34 t479.length co34, .slice Ao35 t482.length co35, .int .i64 0]) ?_ 5 _ rfl); refine pc_ (blk_put (cs := #[.slice Ao29 t470.length co29, .slice Ao32 t473.length co32, .slice Ao33 t476.length co33, .slice Ao34 t479.length co34, .slice none 0 0, .int .i64 0]) ?_ 4 _ rfl); refine pc_ (blk_put (cs := #[.slice Ao29 t470.length co29, .slice Ao32 t473.length co32, .slice Ao33 t476.length co33, .slice none 0 0, .slice none 0 0, .int .i64 0]) ?_ 3 _ rfl); refine pc_ (blk_put (cs := #[.slice Ao29 t470.length co29, .slice Ao32 t473.length co32, .slice none 0 0, .slice none 0 0, .slice none 0 0, .int .i64 0]) ?_ 2 _ rfl); refine pc_ (blk_put (cs := #[.slice Ao29 t470.length co29, .slice none 0 0, .slice none 0 0, .slice none 0 0, .slice none 0 0, .int .i64 0]) ?_ 1 _ rfl); refine pc_ (blk_put (cs := #[.slice none 0 0, .slice none 0 0, .slice none 0 0, .slice none 0 0, .slice none 0 0, .int .i64 0]) ?_ 0 _ rfl); exact pb_ BK486.1) hb) (below_step (bh_ GE451.1 GE486.1) hb); clear HO455 HO458 HO461 HO464 HO467 HO472 HO475 HO478 HO481 HO484 BK451 BK486 HB; obtain ⟨HO455, HO458, HO461, HO464, HO467, HO472, HO475, HO478, HO481, HO484, BK451, BK486, HB⟩ := n_; (try clear hb)))
    have n_ := as13_ (Kd.R_drew HO455.1) (Kd.R_drew HO458.1) (Kd.R_drew HO461.1) (Kd.R_drew HO464.1) (Kd.R_drew HO467.1) (Kd.R_drew HO472.1) (Kd.R_drew HO475.1) (Kd.R_drew HO478.1) (Kd.R_drew HO481.1) (Kd.R_drew HO484.1) (blk_drew BK451.1) (blk_drew BK486.1) (below_drew1 HB.1); clear HO455 HO458 HO461 HO464 HO467 HO472 HO475 HO478 HO481 HO484 BK451 BK486 HB; obtain ⟨HO455, HO458, HO461, HO464, HO467, HO472, HO475, HO478, HO481, HO484, BK451, BK486, HB⟩ := n_
    refine start_ (n := 5) (S := fun w' => w'.cell? ⟨gb486, 0, none⟩ = some (.slice Ao29 t470.length co29) ∧ w'.cell? ⟨gb486, 1, none⟩ = some (.slice Ao32 t473.length co32) ∧ w'.cell? ⟨gb486, 2, none⟩ = some (.slice Ao33 t476.length co33) ∧ w'.cell? ⟨gb486, 3, none⟩ = some (.slice Ao34 t479.length co34) ∧ w'.cell? ⟨gb486, 4, none⟩ = some (.slice Ao35 t482.length co35) ∧ w'.cell? ⟨gb486, 5, none⟩ = some (.int .i64 t485) ∧ w'.cell? ⟨gb451, 0, none⟩ = some (.slice A0_0 l0_0.length c0_0) ∧ w'.cell? ⟨gb451, 1, none⟩ = some (.slice A0_1 l0_1.length c0_1) ∧ w'.cell? ⟨gb451, 2, none⟩ = some (.slice A0_2 l0_2.length c0_2) ∧ w'.cell? ⟨gb451, 3, none⟩ = some (.slice A0_3 l0_3.length c0_3) ∧ w'.cell? ⟨gb451, 4, none⟩ = some (.slice A0_4 l0_4.length c0_4) ∧ w'.cell? ⟨gb451, 5, none⟩ = some (.int .i64 a0_5)) (ds := []) #[false, false, false, false, false] kr_ rfl rfl ⟨(blk_cell BK486.1 0).trans rfl, (blk_cell BK486.1 1).trans rfl, (blk_cell BK486.1 2).trans rfl, (blk_cell BK486.1 3).trans rfl, (blk_cell BK486.1 4).trans rfl, (blk_cell BK486.1 5).trans rfl, (blk_cell BK451.1 0).trans rfl, (blk_cell BK451.1 1).trans rfl, (blk_cell BK451.1 2).trans rfl, (blk_cell BK451.1 3).trans rfl, (blk_cell BK451.1 4).trans rfl, (blk_cell BK451.1 5).trans rfl⟩ (fun hHeld => ?_)
    generalize w36.drew = w37 at HO455 HO458 HO461 HO464 HO467 HO472 HO475 HO478 HO481 HO484 BK451 BK486 HB hHeld ⊢
    refine take_ (i := 0) (N := some 22) (v := ?_) (a' := ?_) #[true, false, false, false, false] rfl rfl kr_ (fun _ _ _ h => h) (Or.inl ⟨by rfl, ?_⟩) hHeld ?_ ?_
    rotate_left
    ·
     rintro w' ⟨s0, s1, s2, s3, s4, s5, s6, s7, s8, s9, s10, s11⟩; go_simp; with_reducible rfl
    rotate_left
    ·
     exact sp_
    refine take_ (i := 1) (N := some 23) (v := ?_) (a' := ?_) #[true, true, false, false, false] rfl rfl kr_ (fun _ _ _ h => h) (Or.inl ⟨by rfl, ?_⟩) hHeld ?_ ?_
    rotate_left
    ·
     rintro w' ⟨s0, s1, s2, s3, s4, s5, s6, s7, s8, s9, s10, s11⟩; go_simp; with_reducible rfl
    rotate_left
    ·
     exact sp_
    refine one_ (i := 2) (N := some 24) #[true, true, true, false, false] rfl rfl kr_ (by decide) (fun K hK => ?_)
    refine goes_ Try.func20 kr_ rfl #[.agg #[.slice A0_0 l0_0.length c0_0, .slice A0_1 l0_1.length c0_1, .slice A0_2 l0_2.length c0_2, .slice A0_3 l0_3.length c0_3, .slice A0_4 l0_4.length c0_4, .int .i64 a0_5]] (by rfl) rfl rfl (bc_) ?_
    with_reducible refine (laws_toBooks.calls k _ _ l0_0 _ _ l0_1 _ _ l0_2 _ _ l0_3 _ _ l0_4 a0_5 t488 t491 t494 t497 t500 t503 _ ?side1 ?side2 ?side3 ?side4 ?side5 ?side6 ?side7 ?side8 ?side9 ?side10 A12.1).mono ?_
    (case side1 => exact cc_ (Kd.C_below HR0_0.1 HB.1))
    (case side2 => exact HC0_0.1)
    (case side3 => exact cc_ (Kd.C_below HR0_1.1 HB.1))
    (case side4 => exact HC0_1.1)
    (case side5 => exact cc_ (Kd.C_below HR0_2.1 HB.1))
    (case side6 => exact HC0_2.1)
    (case side7 => exact cc_ (Kd.C_below HR0_3.1 HB.1))
    (case side8 => exact HC0_3.1)
    (case side9 => exact cc_ (Kd.C_below HR0_4.1 HB.1))
    (case side10 => exact HC0_4.1)
    rintro e w38 ⟨v489, v492, v495, v498, v501, rfl, ho0, ho1, ho2, ho3, ho4, hb⟩; refine ⟨_, rfl, ?_⟩
    have n0_ := Aside0.mk (Kd.R_elder' (pe_ HO455.1) (Kd.R_base ho0) hb); have n1_ := Aside0.mk (Kd.R_elder' (pe_ HO458.1) (Kd.R_base ho1) hb); have n2_ := Aside0.mk (Kd.R_elder' (pe_ HO461.1) (Kd.R_base ho2) hb); have n3_ := Aside0.mk (Kd.R_elder' (pe_ HO464.1) (Kd.R_base ho3) hb); have n4_ := Aside0.mk (Kd.R_elder' (pe_ HO467.1) (Kd.R_base ho4) hb); have n5_ := Aside0.mk (Kd.R_elder' (pe_ HO472.1) (Kd.R_base ho0) hb); have n6_ := Aside0.mk (Kd.R_elder' (pe_ HO475.1) (Kd.R_base ho1) hb); have n7_ := Aside0.mk (Kd.R_elder' (pe_ HO478.1) (Kd.R_base ho2) hb); have n8_ := Aside0.mk (Kd.R_elder' (pe_ HO481.1) (Kd.R_base ho3) hb); have n9_ := Aside0.mk (Kd.R_elder' (pe_ HO484.1) (Kd.R_base ho4) hb); have n10_ := Aside0.mk (Kd.R_lower (Kd.R_new' (Kd.R_new' ho0 (Kd.R_lt (pe_ HO455.1))) (Kd.R_lt (pe_ HO472.1))) (below_size (bh_ GE451.1 GE486.1))); have n11_ := Aside0.mk (Kd.R_lower (Kd.R_new' (Kd.R_new' ho1 (Kd.R_lt (pe_ HO458.1))) (Kd.R_lt (pe_ HO475.1))) (below_size (bh_ GE451.1 GE486.1))); have n12_ := Aside0.mk (Kd.R_lower (Kd.R_new' (Kd.R_new' ho2 (Kd.R_lt (pe_ HO461.1))) (Kd.R_lt (pe_ HO478.1))) (below_size (bh_ GE451.1 GE486.1))); have n13_ := Aside0.mk (Kd.R_lower (Kd.R_new' (Kd.R_new' ho3 (Kd.R_lt (pe_ HO464.1))) (Kd.R_lt (pe_ HO481.1))) (below_size (bh_ GE451.1 GE486.1))); have n14_ := Aside0.mk (Kd.R_lower (Kd.R_new' (Kd.R_new' ho4 (Kd.R_lt (pe_ HO467.1))) (Kd.R_lt (pe_ HO484.1))) (below_size (bh_ GE451.1 GE486.1)))
    have n15_ := Aside0.mk (bl_ BK451.1 hb); have n16_ := Aside0.mk (bl_ BK486.1 hb); have n17_ := Aside0.mk (below_step (bh_ GE451.1 GE486.1) hb); clear HO455; clear HO458; clear HO461; clear HO464; clear HO467; clear HO472; clear HO475; clear HO478; clear HO481; clear HO484; clear BK451; clear BK486; clear HB; have HO455 := n0_; have HO458 := n1_; have HO461 := n2_; have HO464 := n3_; have HO467 := n4_; have HO472 := n5_; have HO475 := n6_; have HO478 := n7_; have HO481 := n8_; have HO484 := n9_; have HO490 := n10_; have HO493 := n11_; have HO496 := n12_; have HO499 := n13_; have HO502 := n14_; have BK451 := n15_; have BK486 := n16_; have HB := n17_; clear n0_ n1_ n2_ n3_ n4_ n5_ n6_ n7_ n8_ n9_ n10_ n11_ n12_ n13_ n14_ n15_ n16_ n17_
    
    
    
    
    
    
    
    
    
    obtain ⟨Ao39, co39, eo39⟩ := Kd.R_slice HO490.1; (first | subst eo39 | (injection eo39 with f1_ f2_ f3_; have f4_ := f1_.symm; have f5_ := f3_.symm; clear f1_ f2_ f3_; subst f4_; subst f5_))
    obtain ⟨Ao40, co40, eo40⟩ := Kd.R_slice HO493.1; (first | subst eo40 | (injection eo40 with f1_ f2_ f3_; have f4_ := f1_.symm; have f5_ := f3_.symm; clear f1_ f2_ f3_; subst f4_; subst f5_))
    obtain ⟨Ao41, co41, eo41⟩ := Kd.R_slice HO496.1; (first | subst eo41 | (injection eo41 with f1_ f2_ f3_; have f4_ := f1_.symm; have f5_ := f3_.symm; clear f1_ f2_ f3_; subst f4_; subst f5_))
    obtain ⟨Ao42, co42, eo42⟩ := Kd.R_slice HO499.1; (first | subst eo42 | (injection eo42 with f1_ f2_ f3_; have f4_ := f1_.symm; have f5_ := f3_.symm; clear f1_ f2_ f3_; subst f4_; subst f5_))
    obtain ⟨Ao43, co43, eo43⟩ := Kd.R_slice HO502.1; (first | subst eo43 | (injection eo43 with f1_ f2_ f3_; have f4_ := f1_.symm; have f5_ := f3_.symm; clear f1_ f2_ f3_; subst f4_; subst f5_))
    refine hK.out _ _ ⟨(blk_cell BK486.1 0).trans rfl, (blk_cell BK486.1 1).trans rfl, (blk_cell BK486.1 2).trans rfl, (blk_cell BK486.1 3).trans rfl, (blk_cell BK486.1 4).trans rfl, (blk_cell BK486.1 5).trans rfl, (blk_cell BK451.1 0).trans rfl, (blk_cell BK451.1 1).trans rfl, (blk_cell BK451.1 2).trans rfl, (blk_cell BK451.1 3).trans rfl, (blk_cell BK451.1 4).trans rfl, (blk_cell BK451.1 5).trans rfl⟩ (fun hHeld => ?_)
    clear hK K; refine norm_ (a' := ?_) ?_ ?_
    rotate_left
    ·
     show Act.put _ (some 24) _ = _
     exact sp_
    refine one_ (i := 3) (N := some 25) #[true, true, true, true, false] rfl rfl kr_ (by decide) (fun K hK => ?_)
    refine goes_ Try.func15 kr_ rfl #[.agg #[.slice Ao29 t470.length co29, .slice Ao32 t473.length co32, .slice Ao33 t476.length co33, .slice Ao34 t479.length co34, .slice Ao35 t482.length co35, .int .i64 t485], .agg #[.slice Ao39 t488.length co39, .slice Ao40 t491.length co40, .slice Ao41 t494.length co41, .slice Ao42 t497.length co42, .slice Ao43 t500.length co43, .int .i64 t503]] (by rfl) rfl rfl (bc_) ?_
    with_reducible refine (laws_eqBooks.calls k _ _ t470 _ _ t473 _ _ t476 _ _ t479 _ _ t482 t485 _ _ t488 _ _ t491 _ _ t494 _ _ t497 _ _ t500 t503 true _ ?side1 ?side2 ?side3 ?side4 ?side5 ?side6 ?side7 ?side8 ?side9 ?side10 ?side11 ?side12 ?side13 ?side14 ?side15 ?side16 ?side17 ?side18 ?side19 ?side20 A13.1).mono ?_
    (case side1 => exact cc_ (Kd.R_reads' HO472.1).2.2)
    (case side2 => exact (Kd.R_reads' HO472.1).2.1)
    (case side3 => exact cc_ (Kd.R_reads' HO475.1).2.2)
    (case side4 => exact (Kd.R_reads' HO475.1).2.1)
    (case side5 => exact cc_ (Kd.R_reads' HO478.1).2.2)
    (case side6 => exact (Kd.R_reads' HO478.1).2.1)
    (case side7 => exact cc_ (Kd.R_reads' HO481.1).2.2)
    (case side8 => exact (Kd.R_reads' HO481.1).2.1)
    (case side9 => exact cc_ (Kd.R_reads' HO484.1).2.2)
    (case side10 => exact (Kd.R_reads' HO484.1).2.1)
    (case side11 => exact cc_ (Kd.R_reads' HO490.1).2.2)
    (case side12 => exact (Kd.R_reads' HO490.1).2.1)
    (case side13 => exact cc_ (Kd.R_reads' HO493.1).2.2)
    (case side14 => exact (Kd.R_reads' HO493.1).2.1)
    (case side15 => exact cc_ (Kd.R_reads' HO496.1).2.2)
    (case side16 => exact (Kd.R_reads' HO496.1).2.1)
    (case side17 => exact cc_ (Kd.R_reads' HO499.1).2.2)
    (case side18 => exact (Kd.R_reads' HO499.1).2.1)
    (case side19 => exact cc_ (Kd.R_reads' HO502.1).2.2)
    (case side20 => exact (Kd.R_reads' HO502.1).2.1)
    rintro e w44 ⟨rfl, hb⟩; refine ⟨_, rfl, ?_⟩
    have n0_ := Aside0.mk (Kd.R_below (pe_ HO455.1) hb); have n1_ := Aside0.mk (Kd.R_below (pe_ HO458.1) hb); have n2_ := Aside0.mk (Kd.R_below (pe_ HO461.1) hb); have n3_ := Aside0.mk (Kd.R_below (pe_ HO464.1) hb); have n4_ := Aside0.mk (Kd.R_below (pe_ HO467.1) hb); have n5_ := Aside0.mk (Kd.R_below (pe_ HO472.1) hb); have n6_ := Aside0.mk (Kd.R_below (pe_ HO475.1) hb); have n7_ := Aside0.mk (Kd.R_below (pe_ HO478.1) hb); have n8_ := Aside0.mk (Kd.R_below (pe_ HO481.1) hb); have n9_ := Aside0.mk (Kd.R_below (pe_ HO484.1) hb); have n10_ := Aside0.mk (Kd.R_below (pe_ HO490.1) hb); have n11_ := Aside0.mk (Kd.R_below (pe_ HO493.1) hb); have n12_ := Aside0.mk (Kd.R_below (pe_ HO496.1) hb); have n13_ := Aside0.mk (Kd.R_below (pe_ HO499.1) hb); have n14_ := Aside0.mk (Kd.R_below (pe_ HO502.1) hb); have n15_ := Aside0.mk (bl_ BK451.1 hb); have n16_ := Aside0.mk (bl_ BK486.1 hb); have n17_ := Aside0.mk (below_step (bh_ GE451.1 GE486.1) hb); clear HO455; clear HO458; clear HO461; clear HO464; clear HO467; clear HO472; clear HO475; clear HO478; clear HO481; clear HO484; clear HO490; clear HO493; clear HO496; clear HO499; clear HO502; clear BK451; clear BK486; clear HB; have HO455 := n0_; have HO458 := n1_; have HO461 := n2_; have HO464 := n3_; have HO467 := n4_; have HO472 := n5_; have HO475 := n6_; have HO478 := n7_; have HO481 := n8_; have HO484 := n9_; have HO490 := n10_; have HO493 := n11_; have HO496 := n12_; have HO499 := n13_
    have HO502 := n14_; have BK451 := n15_; have BK486 := n16_; have HB := n17_; clear n0_ n1_ n2_ n3_ n4_ n5_ n6_ n7_ n8_ n9_ n10_ n11_ n12_ n13_ n14_ n15_ n16_ n17_
    
    
    
    
    refine hK.out _ _ ⟨(blk_cell BK486.1 0).trans rfl, (blk_cell BK486.1 1).trans rfl, (blk_cell BK486.1 2).trans rfl, (blk_cell BK486.1 3).trans rfl, (blk_cell BK486.1 4).trans rfl, (blk_cell BK486.1 5).trans rfl, (blk_cell BK451.1 0).trans rfl, (blk_cell BK451.1 1).trans rfl, (blk_cell BK451.1 2).trans rfl, (blk_cell BK451.1 3).trans rfl, (blk_cell BK451.1 4).trans rfl, (blk_cell BK451.1 5).trans rfl⟩ (fun hHeld => ?_)
    clear hK K; refine norm_ (a' := ?_) ?_ ?_
    rotate_left
    ·
     show Act.put _ (some 25) _ = _
     exact sp_
    refine pure_ (i := 4) (N := some 26) (v := ?_) (a' := ?_) #[true, true, true, true, true] rfl rfl kr_ (fun _ _ _ h => h) (Or.inl ⟨by rfl, ?_⟩) ?_ ?_
    rotate_left
    ·
     intro w'
     go_simp; with_reducible rfl
    rotate_left
    ·
     exact sp_
    refine done_ kr_ ?_
    try go_wp2
    go_ret; exact ⟨er_, bh_ GE451.1 GE486.1⟩
   ·
    replace c14 := Bool.eq_false_iff.mpr c14; subst c14; replace H := Eq.trans (if_neg nf_).symm H; exact absurd H (by simp)
end Go.Proofs.Ytmfgajbkcnlkcaa.P
namespace Go.Proofs.Ytmfgajbkcnlkcaa.EV
open Go Go.RowKit Go.Proofs.YtmfgajbkcnlkcaaW.PrintWords
theorem w64_in (n : Int) (h0 : -9223372036854775808 ≤ n) (h1 : n ≤ 9223372036854775807) : wrap64 n = n := by unfold wrap64; omega
theorem w_succ {i n : Nat} (h : i < n) (hn : n ≤ 9223372036854775807) : wrap64 ((i : Int) + 1) = ((i + 1 : Nat) : Int) := by unfold wrap64; omega
theorem w_pred {i n : Nat} (h : i < n) (hp : 0 < i) (hn : n ≤ 9223372036854775807) : wrap64 ((i : Int) - 1) = ((i - 1 : Nat) : Int) := by unfold wrap64; omega
theorem Ev_one {α : Type} {g : Nat → Option α} {r : α} (h : ∀ k, g (k + 1) = some r) : Ev g r := ⟨1, fun k hk => by
  obtain ⟨k, rfl⟩ : ∃ m, k = m + 1 := ⟨k - 1, by omega⟩
  exact h k⟩
theorem Ev_all_k {α : Type} {g : Nat → Option α} {r : α} (h : ∀ k, g k = some r) : Ev g r := ⟨0, fun k _ => h k⟩
theorem Ev_bind {α β : Type} {g : Nat → Option α} {f : Nat → α → Option β} {a : α} {r : β} (h : Ev g a) (k : Ev (fun n => f n a) r) : Ev (fun n => (g n).bind (f n)) r := Ev.bind h k
theorem Ev_asks (l : Nat → Int → Option Bool) (n : Nat) (G : Nat → Prop) (fin : Bool) (h0 : Ev (fun k => l k (n : Int)) fin)
    (hs : ∀ i : Nat, i < n → (G i ∧ ∀ k, l (k + 1) (i : Int) = l k ((i + 1 : Nat) : Int)) ∨ (¬ G i ∧ ∀ k, l (k + 1) (i : Int) = some false)) :
    ∀ (d i : Nat), n - i = d → i ≤ n → ∃ r, Ev (fun k => l k (i : Int)) r ∧ (r = true ↔ (∀ j, i ≤ j → j < n → G j) ∧ fin = true) := by
  intro d
  induction d with
  | zero =>
    intro i hd hi
    obtain rfl : i = n := by omega
    exact ⟨fin, h0, ⟨fun h => ⟨fun j h1 h2 => by omega, h⟩, fun h => h.2⟩⟩
  | succ d ih =>
    intro i hd hi
    rcases hs i (by omega) with ⟨hg, he⟩ | ⟨hg, he⟩
    · obtain ⟨r, hr, hiff⟩ := ih (i + 1) (by omega) (by omega)
      refine ⟨r, Ev.step he hr, ?_⟩
      rw [hiff]
      constructor
      · rintro ⟨h1, h2⟩
        refine ⟨fun j h3 h4 => ?_, h2⟩
        rcases Nat.eq_or_lt_of_le h3 with h5 | h5
        · exact h5 ▸ hg
        · exact h1 j h5 h4
      · rintro ⟨h1, h2⟩
        exact ⟨fun j h3 h4 => h1 j (by omega) h4, h2⟩
    · refine ⟨false, Ev_one he, ⟨fun h => Bool.noConfusion h, fun h => absurd (h.1 i (Nat.le_refl _) (by omega)) hg⟩⟩
theorem Ev_goes {σ ρ : Type} (l : Nat → σ → Int → Option ρ) (n : Nat) (F : Nat → σ → ρ) (Inv : Nat → σ → Prop)
    (h0 : ∀ s, Inv n s → Ev (fun k => l k s (n : Int)) (F n s))
    (hs : ∀ (i : Nat) s, i < n → Inv i s → (Ev (fun k => l k s (i : Int)) (F i s)) ∨ ∃ s', Inv (i + 1) s' ∧ F (i + 1) s' = F i s ∧ ∀ k, l (k + 1) s (i : Int) = l k s' ((i + 1 : Nat) : Int)) :
    ∀ (d i : Nat) s, n - i = d → i ≤ n → Inv i s → Ev (fun k => l k s (i : Int)) (F i s) := by
  intro d
  induction d with
  | zero =>
    intro i s hd hi hinv
    obtain rfl : i = n := by omega
    exact h0 s hinv
  | succ d ih =>
    intro i s hd hi hinv
    rcases hs i s (by omega) hinv with h | ⟨s', h1, h2, h3⟩
    · exact h
    · exact h2 ▸ Ev.step h3 (ih (i + 1) s' (by omega) (by omega) h1)
theorem Ev_goes' {σ ρ : Type} (l : Nat → σ → Int → Option ρ) (n : Nat) (F : Nat → σ → ρ) (Inv : Nat → σ → Prop)
    (h0 : ∀ s, Inv n s → Ev (fun k => l k s (n : Int)) (F n s))
    (hs : ∀ (i : Nat) s, i < n → Inv i s → (Ev (fun k => l k s (i : Int)) (F i s)) ∨ ∃ s', Inv (i + 1) s' ∧ F (i + 1) s' = F i s ∧ ∀ r, Ev (fun k => l k s' ((i + 1 : Nat) : Int)) r → Ev (fun k => l k s (i : Int)) r) :
    ∀ (d i : Nat) s, n - i = d → i ≤ n → Inv i s → Ev (fun k => l k s (i : Int)) (F i s) := by
  intro d
  induction d with
  | zero =>
    intro i s hd hi hinv
    obtain rfl : i = n := by omega
    exact h0 s hinv
  | succ d ih =>
    intro i s hd hi hinv
    rcases hs i s (by omega) hinv with h | ⟨s', h1, h2, h3⟩
    · exact h
    · exact h2 ▸ h3 _ (ih (i + 1) s' (by omega) (by omega) h1)
theorem Ev_asks' (l : Nat → Int → Option Bool) (n : Nat) (G : Nat → Prop) (fin : Bool) (h0 : Ev (fun k => l k (n : Int)) fin)
    (hs : ∀ i : Nat, i < n → (G i ∧ ∀ r, Ev (fun k => l k ((i + 1 : Nat) : Int)) r → Ev (fun k => l k (i : Int)) r) ∨ (¬ G i ∧ Ev (fun k => l k (i : Int)) false)) :
    ∀ (d i : Nat), n - i = d → i ≤ n → ∃ r, Ev (fun k => l k (i : Int)) r ∧ (r = true ↔ (∀ j, i ≤ j → j < n → G j) ∧ fin = true) := by
  intro d
  induction d with
  | zero =>
    intro i hd hi
    obtain rfl : i = n := by omega
    exact ⟨fin, h0, ⟨fun h => ⟨fun j h1 h2 => by omega, h⟩, fun h => h.2⟩⟩
  | succ d ih =>
    intro i hd hi
    rcases hs i (by omega) with ⟨hg, he⟩ | ⟨hg, he⟩
    · obtain ⟨r, hr, hiff⟩ := ih (i + 1) (by omega) (by omega)
      refine ⟨r, he r hr, ?_⟩
      rw [hiff]
      constructor
      · rintro ⟨h1, h2⟩
        refine ⟨fun j h3 h4 => ?_, h2⟩
        rcases Nat.eq_or_lt_of_le h3 with h5 | h5
        · exact h5 ▸ hg
        · exact h1 j h5 h4
      · rintro ⟨h1, h2⟩
        exact ⟨fun j h3 h4 => h1 j (by omega) h4, h2⟩
    · exact ⟨false, he, ⟨fun h => Bool.noConfusion h, fun h => absurd (h.1 i (Nat.le_refl _) (by omega)) hg⟩⟩
theorem drop_getD {α : Type} (z : α) (l : List α) (i : Nat) (h : i < l.length) : l.drop i = l.getD i z :: l.drop (i + 1) := by
  rw [List.drop_eq_getElem_cons h, List.getD_eq_getElem?_getD, List.getElem?_eq_getElem h]
  rfl
end Go.Proofs.Ytmfgajbkcnlkcaa.EV
namespace Go.Proofs.Ytmfgajbkcnlkcaa.T1
open Go Go.RowKit Go.Proofs.Ytmfgajbkcnlkcaa.P Go.Proofs.YtmfgajbkcnlkcaaW.PrintWords Go.Proofs.YtmfgajbkcnlkcaaW.PrintLast Go.Proofs.Ytmfgajbkcnlkcaa.EV
def cvAccount (x : S106) : S88 := ⟨x.f0, x.f1⟩
theorem sz_Account  (l : List S106) (left : Int) (h0 : 0 ≤ left) (h1 : left ≤ 1048576) (hm : l.length ≤ 9223372036854775807) : laws_szAccountS.f l left = some (if left < (l.length : Int) then -1 else left - l.length) := by
  unfold laws_szAccountS.f
  rw [w64_in _ (by omega) (by omega)]
  by_cases h : left < (l.length : Int)
  · rw [if_pos h, if_pos (by omega)]
  · rw [if_neg h, if_neg (by omega)]
theorem rd1_Account (l : List S106) (i : Nat) : rd_T106 l (i : Int) = l.getD i z106 := by unfold rd_T106; rw [Int.toNat_natCast]
theorem to_Account  (l : List S106) (hl : l.length ≤ 1048576) : Ev (fun k => laws_toAccountS.f k l) (l.map cvAccount) := by
  unfold laws_toAccountS.f
  have h := Ev_goes (fun k s i => laws_toAccountS.l0 k l s i) l.length (fun i s => s.take i ++ (l.drop i).map cvAccount) (fun i s => s.length = l.length)
    (fun s hs => Ev_one fun k => by
      simp only [laws_toAccountS.l0]
      rw [if_neg (by omega), List.drop_length, List.map_nil, List.append_nil, ← hs, List.take_length])
    (fun i s hi hs => .inr ⟨s.set i (cvAccount (l.getD i z106)), by rw [List.length_set]; exact hs, by
        rw [List.take_add_one, List.take_set_of_le (Nat.le_refl i), List.getElem?_set_self (by omega), List.drop_eq_getElem_cons hi, List.map_cons]
        have : l.getD i z106 = l[i] := by rw [List.getD_eq_getElem?_getD, List.getElem?_eq_getElem hi]; rfl
        rw [this]
        simp, fun k => by
        show laws_toAccountS.l0 (k + 1) l s (i : Int) = _
        simp only [laws_toAccountS.l0]
        rw [if_pos (by omega), if_pos (by omega), w_succ hi (by omega)]
        simp only [laws_toAccount.f, Option.bind_some, rd1_Account]
        rw [if_pos (by omega)]
        simp only [Int.toNat_natCast]
        rfl⟩) l.length 0 (List.replicate l.length z88) (by omega) (by omega) (by simp)
  refine Ev.congr (fun k => ?_) h
  rw [if_pos (by omega), if_pos (by omega)]
  rfl
theorem eq1_Account (x : S88) : laws_eqAccount.f x.f0 x.f1 x.f0 x.f1 = some true := by unfold laws_eqAccount.f; simp
theorem eq_Account (l : List S88) (hl : l.length ≤ 9223372036854775807) : Ev (fun k => laws_eqAccountS.f k l l) true := by
  unfold laws_eqAccountS.f
  obtain ⟨r, hr, hiff⟩ := Ev_asks (fun k i => laws_eqAccountS.l0 k l l i) l.length (fun _ => True) true
    (Ev_one fun k => by simp only [laws_eqAccountS.l0]; rw [if_neg (by omega)])
    (fun i hi => .inl ⟨trivial, fun k => by
      show laws_eqAccountS.l0 (k + 1) l l (i : Int) = _
      simp only [laws_eqAccountS.l0]
      rw [if_pos (by omega), if_pos (by omega), if_pos (by omega), w_succ hi (by omega)]
      simp only [eq1_Account, Option.bind_some, if_true]⟩) l.length 0 (by omega) (by omega)
  obtain rfl : r = true := hiff.2 ⟨fun _ _ _ => trivial, rfl⟩
  refine Ev.congr (fun k => ?_) hr
  rw [if_pos rfl]
  rfl
def cvInstr (x : S108) : S90 := ⟨x.f0, x.f1⟩
theorem sz_Instr  (l : List S108) (left : Int) (h0 : 0 ≤ left) (h1 : left ≤ 1048576) (hm : l.length ≤ 9223372036854775807) : laws_szInstrS.f l left = some (if left < (l.length : Int) then -1 else left - l.length) := by
  unfold laws_szInstrS.f
  rw [w64_in _ (by omega) (by omega)]
  by_cases h : left < (l.length : Int)
  · rw [if_pos h, if_pos (by omega)]
  · rw [if_neg h, if_neg (by omega)]
theorem rd1_Instr (l : List S108) (i : Nat) : rd_T108 l (i : Int) = l.getD i z108 := by unfold rd_T108; rw [Int.toNat_natCast]
theorem to_Instr  (l : List S108) (hl : l.length ≤ 1048576) : Ev (fun k => laws_toInstrS.f k l) (l.map cvInstr) := by
  unfold laws_toInstrS.f
  have h := Ev_goes (fun k s i => laws_toInstrS.l0 k l s i) l.length (fun i s => s.take i ++ (l.drop i).map cvInstr) (fun i s => s.length = l.length)
    (fun s hs => Ev_one fun k => by
      simp only [laws_toInstrS.l0]
      rw [if_neg (by omega), List.drop_length, List.map_nil, List.append_nil, ← hs, List.take_length])
    (fun i s hi hs => .inr ⟨s.set i (cvInstr (l.getD i z108)), by rw [List.length_set]; exact hs, by
        rw [List.take_add_one, List.take_set_of_le (Nat.le_refl i), List.getElem?_set_self (by omega), List.drop_eq_getElem_cons hi, List.map_cons]
        have : l.getD i z108 = l[i] := by rw [List.getD_eq_getElem?_getD, List.getElem?_eq_getElem hi]; rfl
        rw [this]
        simp, fun k => by
        show laws_toInstrS.l0 (k + 1) l s (i : Int) = _
        simp only [laws_toInstrS.l0]
        rw [if_pos (by omega), if_pos (by omega), w_succ hi (by omega)]
        simp only [laws_toInstr.f, Option.bind_some, rd1_Instr]
        rw [if_pos (by omega)]
        simp only [Int.toNat_natCast]
        rfl⟩) l.length 0 (List.replicate l.length z90) (by omega) (by omega) (by simp)
  refine Ev.congr (fun k => ?_) h
  rw [if_pos (by omega), if_pos (by omega)]
  rfl
theorem eq1_Instr (x : S90) : laws_eqInstr.f x.f0 x.f1 x.f0 x.f1 = some true := by unfold laws_eqInstr.f; simp
theorem eq_Instr (l : List S90) (hl : l.length ≤ 9223372036854775807) : Ev (fun k => laws_eqInstrS.f k l l) true := by
  unfold laws_eqInstrS.f
  obtain ⟨r, hr, hiff⟩ := Ev_asks (fun k i => laws_eqInstrS.l0 k l l i) l.length (fun _ => True) true
    (Ev_one fun k => by simp only [laws_eqInstrS.l0]; rw [if_neg (by omega)])
    (fun i hi => .inl ⟨trivial, fun k => by
      show laws_eqInstrS.l0 (k + 1) l l (i : Int) = _
      simp only [laws_eqInstrS.l0]
      rw [if_pos (by omega), if_pos (by omega), if_pos (by omega), w_succ hi (by omega)]
      simp only [eq1_Instr, Option.bind_some, if_true]⟩) l.length 0 (by omega) (by omega)
  obtain rfl : r = true := hiff.2 ⟨fun _ _ _ => trivial, rfl⟩
  refine Ev.congr (fun k => ?_) hr
  rw [if_pos rfl]
  rfl
def cvBal (x : S110) : S93 := ⟨x.f0, x.f1, x.f2⟩
theorem sz_Bal  (l : List S110) (left : Int) (h0 : 0 ≤ left) (h1 : left ≤ 1048576) (hm : l.length ≤ 9223372036854775807) : laws_szBalS.f l left = some (if left < (l.length : Int) then -1 else left - l.length) := by
  unfold laws_szBalS.f
  rw [w64_in _ (by omega) (by omega)]
  by_cases h : left < (l.length : Int)
  · rw [if_pos h, if_pos (by omega)]
  · rw [if_neg h, if_neg (by omega)]
theorem rd1_Bal (l : List S110) (i : Nat) : rd_T110 l (i : Int) = l.getD i z110 := by unfold rd_T110; rw [Int.toNat_natCast]
theorem to_Bal  (l : List S110) (hl : l.length ≤ 1048576) : Ev (fun k => laws_toBalS.f k l) (l.map cvBal) := by
  unfold laws_toBalS.f
  have h := Ev_goes (fun k s i => laws_toBalS.l0 k l s i) l.length (fun i s => s.take i ++ (l.drop i).map cvBal) (fun i s => s.length = l.length)
    (fun s hs => Ev_one fun k => by
      simp only [laws_toBalS.l0]
      rw [if_neg (by omega), List.drop_length, List.map_nil, List.append_nil, ← hs, List.take_length])
    (fun i s hi hs => .inr ⟨s.set i (cvBal (l.getD i z110)), by rw [List.length_set]; exact hs, by
        rw [List.take_add_one, List.take_set_of_le (Nat.le_refl i), List.getElem?_set_self (by omega), List.drop_eq_getElem_cons hi, List.map_cons]
        have : l.getD i z110 = l[i] := by rw [List.getD_eq_getElem?_getD, List.getElem?_eq_getElem hi]; rfl
        rw [this]
        simp, fun k => by
        show laws_toBalS.l0 (k + 1) l s (i : Int) = _
        simp only [laws_toBalS.l0]
        rw [if_pos (by omega), if_pos (by omega), w_succ hi (by omega)]
        simp only [laws_toBal.f, Option.bind_some, rd1_Bal]
        rw [if_pos (by omega)]
        simp only [Int.toNat_natCast]
        rfl⟩) l.length 0 (List.replicate l.length z93) (by omega) (by omega) (by simp)
  refine Ev.congr (fun k => ?_) h
  rw [if_pos (by omega), if_pos (by omega)]
  rfl
theorem eq1_Bal (x : S93) : laws_eqBal.f x.f0 x.f1 x.f2 x.f0 x.f1 x.f2 = some true := by unfold laws_eqBal.f; simp
theorem eq_Bal (l : List S93) (hl : l.length ≤ 9223372036854775807) : Ev (fun k => laws_eqBalS.f k l l) true := by
  unfold laws_eqBalS.f
  obtain ⟨r, hr, hiff⟩ := Ev_asks (fun k i => laws_eqBalS.l0 k l l i) l.length (fun _ => True) true
    (Ev_one fun k => by simp only [laws_eqBalS.l0]; rw [if_neg (by omega)])
    (fun i hi => .inl ⟨trivial, fun k => by
      show laws_eqBalS.l0 (k + 1) l l (i : Int) = _
      simp only [laws_eqBalS.l0]
      rw [if_pos (by omega), if_pos (by omega), if_pos (by omega), w_succ hi (by omega)]
      simp only [eq1_Bal, Option.bind_some, if_true]⟩) l.length 0 (by omega) (by omega)
  obtain rfl : r = true := hiff.2 ⟨fun _ _ _ => trivial, rfl⟩
  refine Ev.congr (fun k => ?_) hr
  rw [if_pos rfl]
  rfl
def cvLot (x : S112) : S96 := ⟨x.f0, x.f1, x.f2, x.f3, x.f4⟩
theorem sz_Lot  (l : List S112) (left : Int) (h0 : 0 ≤ left) (h1 : left ≤ 1048576) (hm : l.length ≤ 9223372036854775807) : laws_szLotS.f l left = some (if left < (l.length : Int) then -1 else left - l.length) := by
  unfold laws_szLotS.f
  rw [w64_in _ (by omega) (by omega)]
  by_cases h : left < (l.length : Int)
  · rw [if_pos h, if_pos (by omega)]
  · rw [if_neg h, if_neg (by omega)]
theorem rd1_Lot (l : List S112) (i : Nat) : rd_T112 l (i : Int) = l.getD i z112 := by unfold rd_T112; rw [Int.toNat_natCast]
theorem to_Lot  (l : List S112) (hl : l.length ≤ 1048576) : Ev (fun k => laws_toLotS.f k l) (l.map cvLot) := by
  unfold laws_toLotS.f
  have h := Ev_goes (fun k s i => laws_toLotS.l0 k l s i) l.length (fun i s => s.take i ++ (l.drop i).map cvLot) (fun i s => s.length = l.length)
    (fun s hs => Ev_one fun k => by
      simp only [laws_toLotS.l0]
      rw [if_neg (by omega), List.drop_length, List.map_nil, List.append_nil, ← hs, List.take_length])
    (fun i s hi hs => .inr ⟨s.set i (cvLot (l.getD i z112)), by rw [List.length_set]; exact hs, by
        rw [List.take_add_one, List.take_set_of_le (Nat.le_refl i), List.getElem?_set_self (by omega), List.drop_eq_getElem_cons hi, List.map_cons]
        have : l.getD i z112 = l[i] := by rw [List.getD_eq_getElem?_getD, List.getElem?_eq_getElem hi]; rfl
        rw [this]
        simp, fun k => by
        show laws_toLotS.l0 (k + 1) l s (i : Int) = _
        simp only [laws_toLotS.l0]
        rw [if_pos (by omega), if_pos (by omega), w_succ hi (by omega)]
        simp only [laws_toLot.f, Option.bind_some, rd1_Lot]
        rw [if_pos (by omega)]
        simp only [Int.toNat_natCast]
        rfl⟩) l.length 0 (List.replicate l.length z96) (by omega) (by omega) (by simp)
  refine Ev.congr (fun k => ?_) h
  rw [if_pos (by omega), if_pos (by omega)]
  rfl
theorem eq1_Lot (x : S96) : laws_eqLot.f x.f0 x.f1 x.f2 x.f3 x.f4 x.f0 x.f1 x.f2 x.f3 x.f4 = some true := by unfold laws_eqLot.f; simp
theorem eq_Lot (l : List S96) (hl : l.length ≤ 9223372036854775807) : Ev (fun k => laws_eqLotS.f k l l) true := by
  unfold laws_eqLotS.f
  obtain ⟨r, hr, hiff⟩ := Ev_asks (fun k i => laws_eqLotS.l0 k l l i) l.length (fun _ => True) true
    (Ev_one fun k => by simp only [laws_eqLotS.l0]; rw [if_neg (by omega)])
    (fun i hi => .inl ⟨trivial, fun k => by
      show laws_eqLotS.l0 (k + 1) l l (i : Int) = _
      simp only [laws_eqLotS.l0]
      rw [if_pos (by omega), if_pos (by omega), if_pos (by omega), w_succ hi (by omega)]
      simp only [eq1_Lot, Option.bind_some, if_true]⟩) l.length 0 (by omega) (by omega)
  obtain rfl : r = true := hiff.2 ⟨fun _ _ _ => trivial, rfl⟩
  refine Ev.congr (fun k => ?_) hr
  rw [if_pos rfl]
  rfl
def cvTrade (x : S64) : S50 := ⟨x.f0, x.f1, x.f2, x.f3, x.f4, x.f5, x.f6, x.f7⟩
theorem sz_Trade  (l : List S64) (left : Int) (h0 : 0 ≤ left) (h1 : left ≤ 1048576) (hm : l.length ≤ 9223372036854775807) : laws_szTradeS.f l left = some (if left < (l.length : Int) then -1 else left - l.length) := by
  unfold laws_szTradeS.f
  rw [w64_in _ (by omega) (by omega)]
  by_cases h : left < (l.length : Int)
  · rw [if_pos h, if_pos (by omega)]
  · rw [if_neg h, if_neg (by omega)]
theorem rd1_Trade (l : List S64) (i : Nat) : rd_T64 l (i : Int) = l.getD i z64 := by unfold rd_T64; rw [Int.toNat_natCast]
theorem to_Trade  (l : List S64) (hl : l.length ≤ 1048576) : Ev (fun k => laws_toTradeS.f k l) (l.map cvTrade) := by
  unfold laws_toTradeS.f
  have h := Ev_goes (fun k s i => laws_toTradeS.l0 k l s i) l.length (fun i s => s.take i ++ (l.drop i).map cvTrade) (fun i s => s.length = l.length)
    (fun s hs => Ev_one fun k => by
      simp only [laws_toTradeS.l0]
      rw [if_neg (by omega), List.drop_length, List.map_nil, List.append_nil, ← hs, List.take_length])
    (fun i s hi hs => .inr ⟨s.set i (cvTrade (l.getD i z64)), by rw [List.length_set]; exact hs, by
        rw [List.take_add_one, List.take_set_of_le (Nat.le_refl i), List.getElem?_set_self (by omega), List.drop_eq_getElem_cons hi, List.map_cons]
        have : l.getD i z64 = l[i] := by rw [List.getD_eq_getElem?_getD, List.getElem?_eq_getElem hi]; rfl
        rw [this]
        simp, fun k => by
        show laws_toTradeS.l0 (k + 1) l s (i : Int) = _
        simp only [laws_toTradeS.l0]
        rw [if_pos (by omega), if_pos (by omega), w_succ hi (by omega)]
        simp only [laws_toTrade.f, Option.bind_some, rd1_Trade]
        rw [if_pos (by omega)]
        simp only [Int.toNat_natCast]
        rfl⟩) l.length 0 (List.replicate l.length z50) (by omega) (by omega) (by simp)
  refine Ev.congr (fun k => ?_) h
  rw [if_pos (by omega), if_pos (by omega)]
  rfl
theorem eq1_Trade (x : S50) : laws_eqTrade.f x.f0 x.f1 x.f2 x.f3 x.f4 x.f5 x.f6 x.f7 x.f0 x.f1 x.f2 x.f3 x.f4 x.f5 x.f6 x.f7 = some true := by unfold laws_eqTrade.f; simp
theorem eq_Trade (l : List S50) (hl : l.length ≤ 9223372036854775807) : Ev (fun k => laws_eqTradeS.f k l l) true := by
  unfold laws_eqTradeS.f
  obtain ⟨r, hr, hiff⟩ := Ev_asks (fun k i => laws_eqTradeS.l0 k l l i) l.length (fun _ => True) true
    (Ev_one fun k => by simp only [laws_eqTradeS.l0]; rw [if_neg (by omega)])
    (fun i hi => .inl ⟨trivial, fun k => by
      show laws_eqTradeS.l0 (k + 1) l l (i : Int) = _
      simp only [laws_eqTradeS.l0]
      rw [if_pos (by omega), if_pos (by omega), if_pos (by omega), w_succ hi (by omega)]
      simp only [eq1_Trade, Option.bind_some, if_true]⟩) l.length 0 (by omega) (by omega)
  obtain rfl : r = true := hiff.2 ⟨fun _ _ _ => trivial, rfl⟩
  refine Ev.congr (fun k => ?_) hr
  rw [if_pos rfl]
  rfl
end Go.Proofs.Ytmfgajbkcnlkcaa.T1
