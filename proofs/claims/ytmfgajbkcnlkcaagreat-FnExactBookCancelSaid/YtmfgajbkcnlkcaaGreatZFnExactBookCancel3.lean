/- What the law FnExactBookCancel leans on, cut out of this repo's own texts by a program of this repo: plain functions, the walks that tie the Go calls to them, the law over lists and numbers, and the row. -/
import Derived.Test.YtmfgajbkcnlkcaaGreatZFnExactBookCancel2
import Derived.RowKit
import Derived.IntWalk
set_option maxHeartbeats 8000000
set_option maxRecDepth 100000
namespace Go.Proofs.YtmfgajbkcnlkcaaGreat.P
end Go.Proofs.YtmfgajbkcnlkcaaGreat.P
namespace Go.Proofs.YtmfgajbkcnlkcaaGreat.P
open Go.RowKit Go.Proofs.YtmfgajbkcnlkcaaGreatW.PrintWords Go.Proofs.YtmfgajbkcnlkcaaGreatW.PrintLast Go.Proofs.YtmfgajbkcnlkcaaGreatW.PrintMore
attribute [local go_sem] max2_int min2_int max_two min_two max_three min_three max_four min_four   -- for this text's walks alone
set_option linter.unusedVariables false
set_option linter.unusedSimpArgs false
theorem impl_in.calls (a0 : Int) (a1 : Int) (a2 : Int) (r : Bool) (w : World) (h : impl_in.f a0 a1 a2 = some r) :
    Calls Tryz.prog 59 #[.int .i64 a0, .int .i64 a1, .int .i64 a2] w fun e w' => e = .returned (.bool r) ∧ Drawn0 w w' := by
  have H : (if a0 ≥ a1 then (some (decide (a0 ≤ a2))) else (some false)) = some r := h
  clear h
  by_cases c4 : a0 ≥ a1
  · rw [if_pos c4] at H
    have c4b0 : decide (a1 ≤ a0) = true := decide_eq_true c4
    clear c4
    obtain rfl := Option.some.inj H
    go_enter Tryz.func59, Tryz.ntmps59
    go_wp2
    go_ret
    exact ⟨by first | rfl | (simp; done) | (simp [*]; done), by repeat (first | exact Drawn0.refl _ | apply Drawn0.step)⟩
  · rw [if_neg c4] at H
    have c4b0 : decide (a1 ≤ a0) = false := decide_eq_false c4
    clear c4
    obtain rfl := Option.some.inj H
    go_enter Tryz.func59, Tryz.ntmps59
    go_wp2
    go_ret
    exact ⟨by first | rfl | (simp; done) | (simp [*]; done), by repeat (first | exact Drawn0.refl _ | apply Drawn0.step)⟩
theorem impl_AmountOk.calls (a0 : Int) (r : Bool) (w : World) (h : impl_AmountOk.f a0 = some r) :
    Calls Tryz.prog 130 #[.int .i64 a0] w fun e w' => e = .returned (.bool r) ∧ Drawn0 w w' := by
  have H : ((impl_in.f a0 (-1000000000000000) 1000000000000000).bind fun t399 => (some t399)) = some r := h
  clear h
  replace H := Option.bind_eq_some_iff.mp H
  obtain ⟨t399, A20, H⟩ := H
  replace H : (some t399) = some r := H
  have A2 := Aside0.mk A20
  clear A20
  obtain rfl := Option.some.inj H
  go_enter Tryz.func130, Tryz.ntmps130
  go_wp2_with (first | ((with_reducible refine gate_callee (f := 59) rfl ?_); refine goesL_ (some 4) rfl rfl Tryz.func59 (by kernel_rfl) rfl #[.int .i64 a0, .int .i64 (-1000000000000000), .int .i64 1000000000000000] rfl (by (try simp only [List.map_toArray, List.map_cons, List.map_nil]); first | done | rfl | (simp only [List.length_drop, List.length_take]; rfl)) ?_; (with_reducible refine (impl_in.calls a0 (-1000000000000000) 1000000000000000 t399 _ A2.out).mono ?_); rintro e w' ⟨rfl, ⟨nd, rfl⟩⟩; refine ⟨_, rfl, ?_⟩))
  go_ret
  exact ⟨by first | rfl | (simp; done) | (simp [*]; done), by repeat (first | exact Drawn0.refl _ | apply Drawn0.step)⟩
theorem impl_Lot_100.calls (A0 : Option Addr) (c0 : Nat) (l0 : List (S110)) (r : List (S110)) (w : World) (hr0 : Kd.C k110 w A0 l0.length l0) (hc0 : l0.length ≤ c0) (h : impl_Lot_100.f l0 = some r) :
    Calls Tryz.prog 100 #[.slice A0 l0.length c0] w fun e w' => ∃ v0_ : Value, e = .returned (v0_) ∧ Kd.R k110 110 w' w.heap.size (fun _ => True) v0_ r ∧ Below w.heap.size w w' := by
  have HR0 := Aside0.mk hr0
  have HC0 := Aside0.mk hc0
  clear hr0 hc0
  have HB := Aside0.mk (Below.refl w.heap.size w)
  have H : ((some (([] : List (S110)) : List (S110))).bind fun y419 => (if y419.length + l0.length < 3518437208883 then (some (y419 ++ l0)) else (none))) = some r := h
  clear h
  obtain ⟨y419, hy419⟩ : ∃ y_ : List (S110), y_ = (([] : List (S110))) := ⟨_, rfl⟩
  replace H : (if y419.length + l0.length < 3518437208883 then (some (y419 ++ l0)) else (none)) = some r := by first | (rw [hy419]; with_reducible exact H) | (have H2_ := (Option.bind_some _ _).symm.trans H; rw [hy419]; with_reducible exact H2_) | (have H2_ := (Option.bind_some _ _).symm.trans H; with_reducible exact H2_) | with_reducible exact H | (rw [hy419]; exact H) | exact H
  have Ny419 := Aside0.mk hy419
  clear hy419
  by_cases c2 : y419.length + l0.length < 3518437208883
  · rw [if_pos c2] at H
    have LMc2 := Aside0.mk c2
    clear c2
    obtain ⟨y422, hy422⟩ : ∃ y_ : List (S110), y_ = (y419 ++ l0) := ⟨_, rfl⟩
    replace H : (some y422) = some r := by first | (rw [hy422]; with_reducible exact H) | (have H2_ := (Option.bind_some _ _).symm.trans H; rw [hy422]; with_reducible exact H2_) | (have H2_ := (Option.bind_some _ _).symm.trans H; with_reducible exact H2_) | with_reducible exact H | (rw [hy422]; exact H) | exact H
    have Ny422 := Aside0.mk hy422
    clear hy422
    obtain rfl := Option.some.inj H
    have q_ : ∀ (W : World) (a : Option Addr) (n c n' c' : Nat), (binOp .eql 33 (.slice a n c) (.slice none n' c')).run Tryz.prog W = .ok (.bool a.isNone) W := fun W a n c n' c' => Lib.run_eql_slice_nil W _ _ a n c n' c' Tryz.underlying33
    cases A0 with
    | none =>
      have e0_ : l0 = [] := by
        have h_ : ReadsRow _ _ _ _ _ _ := HR0.out
        unfold ReadsRow at h_
        obtain ⟨h1_, _, h2_⟩ := h_
        apply List.eq_nil_of_length_eq_zero
        apply Classical.byContradiction
        intro hn_
        obtain ⟨ad_, e_, _⟩ := h2_ (by omega)
        cases e_
      have Ny0_ : y422 = [] := by rw [Ny422.out, Ny419.out, e0_]; rfl
      subst Ny0_
      go_enter Tryz.func100, Tryz.ntmps100
      go_wp2
      go_ret
      exact ⟨_, by first | rfl | (simp; done) | (simp [*]; done), Kd.R_nil _ _ _ _ _, HB.out⟩
    | some ad0 =>
      go_enter Tryz.func100, Tryz.ntmps100
      go_wp2_with (first | ((with_reducible refine gate_dst (N := 5) rfl ?_); refine Kd.R_lit k110 _ 110 ?hg (N := 5) ?hd (xs := ([] : List (S110))) (inner := []) (ok := fun _ => True) (okp := fun _ => True) ?hr ?hp (fun _ hk => hk) trivial (Below.refl _ _) (Nat.le_refl _) (by simp) ?_; (case hd => rfl); (case hg => rfl); (case hr => first | (go_simp; done) | (go_simp; rfl)); (case hp => exact (Reps.none _ _)); intro v420 w3 ho4 hb hg_ hnew_; clear hg_ hnew_; (first | rw [← Ny419.out] at ho4 | (simp only [Int.reduceToNat] at ho4; rw [← Ny419.out] at ho4)); have n0_ := Aside0.mk (Kd.R_lower ho4 (below_size (by repeat (first | (with_reducible first | exact HB.out | apply below_alloc | apply pw_below_drewN | apply below_drew1) | exact HB.out)))); have n1_ := Aside0.mk (below_step (by repeat (first | (with_reducible first | exact HB.out | apply below_alloc | apply pw_below_drewN | apply below_drew1) | exact HB.out)) hb); clear HB; have HO421 := n0_; have HB := n1_; clear n0_ n1_; clear hb ho4) | ((with_reducible refine gate_builtin (b := .append) (xs := #[.tmp 5, .tmp 6]) rfl ?_); at_builtin; refine Kd.R_append_rows k110 (w0 := w) w.heap.size rfl (.tmp 5) (.tmp 6) 33 110 (.agg #[(.int .i64 0), (.int .i64 0), (.int .i64 0), (.int .i64 0), (.int .i64 0)]) 40 rfl Tryz.underlying33 info110 rfl (by decide) (by omega) v420 y419 l0 _ _ _ (fun _ => True) (fun _ => False) rfl rfl ?aO ?aR (fun _ _ h => h) (fun _ h => h.elim) ?aF ?aB ?aS ?aL ?_; (case aR => repeat (first | exact (Kd.C_below HR0.out HB.out) | (with_reducible refine Kd.C_alloc ?_ _) | (with_reducible refine Kd.C_drewN ?_ _) | (with_reducible refine Kd.C_drew ?_))); (case aB => exact (by repeat (first | (with_reducible first | exact HB.out | apply below_alloc | apply pw_below_drewN | apply below_drew1) | exact HB.out))); (case aF => exact (fun _ _ => trivial)); (case aO => exact (by (with_reducible repeat (first | apply Kd.R_alloc | apply Kd.R_drewN | apply Kd.R_drew)); exact HO421.out)); (case aS => exact (below_size (by repeat (first | (with_reducible first | exact HB.out | apply below_alloc | apply pw_below_drewN | apply below_drew1) | exact HB.out)))); (case aL => have := LMc2.out; omega); intro v423 w5 ho hb hg hat; rw [← Ny422.out] at ho; have n0_ := Aside0.mk (hb); have n1_ := Aside0.mk (ho); clear HB; clear HO421; have HB := n0_; have HO424 := n1_; clear n0_ n1_; clear ho hb hg hat))
      go_ret
      exact ⟨_, by first | rfl | (simp [errW_none, errW_some] <;> rfl) | (simp [*, errW_none, errW_some] <;> rfl), by (with_reducible repeat (first | apply Kd.R_alloc | apply Kd.R_drewN | apply Kd.R_drew)); exact HO424.out, by repeat (first | (with_reducible first | exact HB.out | apply below_alloc | apply pw_below_drewN | apply below_drew1) | exact HB.out)⟩
  · rw [if_neg c2] at H
    exact absurd H (by simp)
theorem IndexFunc_st110.calls (A0 : Option Addr) (c0 : Nat) (l0 : List (S110)) (fc : FuncId) (caps : Array Value) (p : S110 → Bool) (w : World) (hr0 : Kd.C k110 w A0 l0.length l0) (hc0 : l0.length ≤ c0) (hp : X0.FnB Tryz.prog fc caps w (fun x => .agg #[.int .i64 x.f0, .int .i64 x.f1, .int .i64 x.f2, .int .i64 x.f3, .int .i64 x.f4]) p) :
    Calls Tryz.prog 168 #[.slice A0 l0.length c0, .func (.func fc) #[] caps] w fun e w' => e = .returned (.int .i64 (X0.idx p l0)) ∧ Below w.heap.size w w' := by
  obtain ⟨fn, hf, hn, hb, hcall⟩ := hp
  have HR0 := Aside0.mk hr0
  have HC0 := Aside0.mk hc0
  have HF := Aside0.mk hf
  have HN := Aside0.mk hn
  have HBo := Aside0.mk hb
  have HP := Aside0.mk hcall
  have HM := Aside0.mk (Kd.C_max hr0)
  clear hr0 hc0 hf hn hb hcall
  have HB := Aside0.mk (Below.refl w.heap.size w)
  have hu110 := Tryz.underlying110
  go_enter Tryz.func168, Tryz.ntmps168
  go_wp2
  go_loopg [8] l0.length (fun kq v8 w' => ∃ (x : Int), v8 = .int .i64 x ∧ Aside0 (0 ≤ x ∧ x ≤ l0.length ∧ kq = (l0.length - x).toNat ∧ ∀ j : Nat, j < x.toNat → p (l0.getD j z110) = false) ∧ Aside0 (Below w.heap.size w w'))
  case atStart => exact ⟨0, rfl, ⟨Int.le_refl _, by omega, by omega, fun j hj => by omega⟩, ⟨HB.out⟩⟩
  case round =>
    obtain ⟨x, rfl, HA, HB⟩ := hrel
    by_cases c2 : x < (l0.length : Int)
    · have p1 : 0 ≤ x := HA.out.1
      obtain ⟨ad, e, hx_0, hx_1, hx_2, hx_3, hx_4⟩ := at_T110 HR0.out x p1 c2
      cases e
      replace hx_0 := (HB.out.cell (World.block_lt_of_cell? w _ hx_0)).trans hx_0
      replace hx_1 := (HB.out.cell (World.block_lt_of_cell? w _ hx_1)).trans hx_1
      replace hx_2 := (HB.out.cell (World.block_lt_of_cell? w _ hx_2)).trans hx_2
      replace hx_3 := (HB.out.cell (World.block_lt_of_cell? w _ hx_3)).trans hx_3
      replace hx_4 := (HB.out.cell (World.block_lt_of_cell? w _ hx_4)).trans hx_4
      have c2b0 : decide (x < (l0.length : Int)) = true := decide_eq_true c2
      have C2 := Aside0.mk c2
      replace p1 := eq_true p1
      have q1 := eq_true c2
      clear c2
      cases hpx : p (rd_T110 l0 x) with
      | true =>
        have HX := Aside0.mk hpx
        clear hpx
        go_wp2_with (first | ((with_reducible refine gate_dst (N := 16) rfl ?_); refine X0.goesV_ (some 16) rfl rfl caps HF.out HN.out HBo.out #[.agg #[.int .i64 (rd_T110 l0 x).f0, .int .i64 (rd_T110 l0 x).f1, .int .i64 (rd_T110 l0 x).f2, .int .i64 (rd_T110 l0 x).f3, .int .i64 (rd_T110 l0 x).f4]] rfl rfl (by (try simp only [List.map_toArray, List.map_cons, List.map_nil]); first | done | rfl) ?_; refine (HP.out (rd_T110 l0 x) _ HB.out).mono ?_; rintro e w6 ⟨rfl, hb6⟩; refine ⟨_, rfl, ?_⟩; rw [HX.out]; have n0_ := Aside0.mk (below_step HB.out hb6); clear HB; have HB := n0_; clear n0_ hb6))
        go_ret
        exact ⟨by
          have := HA.out
          have h2 := C2.out
          have e1 : rd_T110 l0 x = l0.getD x.toNat z110 := rfl
          have h3 := HX.out
          rw [e1] at h3
          rw [X0.idx_found p z110 l0 x.toNat (by omega) this.2.2.2 h3, Int.toNat_of_nonneg this.1]
          rfl, HB.out⟩
      | false =>
        have HX := Aside0.mk hpx
        clear hpx
        go_wp2_with (first | ((with_reducible refine gate_dst (N := 16) rfl ?_); refine X0.goesV_ (some 16) rfl rfl caps HF.out HN.out HBo.out #[.agg #[.int .i64 (rd_T110 l0 x).f0, .int .i64 (rd_T110 l0 x).f1, .int .i64 (rd_T110 l0 x).f2, .int .i64 (rd_T110 l0 x).f3, .int .i64 (rd_T110 l0 x).f4]] rfl rfl (by (try simp only [List.map_toArray, List.map_cons, List.map_nil]); first | done | rfl) ?_; refine (HP.out (rd_T110 l0 x) _ HB.out).mono ?_; rintro e w6 ⟨rfl, hb6⟩; refine ⟨_, rfl, ?_⟩; rw [HX.out]; have n0_ := Aside0.mk (below_step HB.out hb6); clear HB; have HB := n0_; clear n0_ hb6))
        go_roundg (l0.length - (x + 1)).toNat
        case measure => have := HA.out; have := C2.out; omega
        case rel =>
          have h1 := HA.out
          have h2 := C2.out
          have h4 := HM.out
          refine ⟨wrap64 (x + 1), (by first | rfl | (simp; done) | (simp [*]; done)), ⟨?_⟩, ⟨HB.out⟩⟩
          have hw : wrap64 (x + 1) = x + 1 := by unfold wrap64; omega
          rw [hw]
          refine ⟨by omega, by omega, rfl, fun j hj => ?_⟩
          by_cases hj2 : j < x.toNat
          · exact h1.2.2.2 j hj2
          · obtain rfl : j = x.toNat := by omega
            exact HX.out
    · have c2b0 : decide (x < (l0.length : Int)) = false := decide_eq_false c2
      have C2 := Aside0.mk c2
      clear c2
      go_wp2
      go_ret
      exact ⟨by
        have := HA.out
        have h2 := C2.out
        rw [X0.idx_none p z110 l0 fun j hj => this.2.2.2 j (by omega)]
        rfl, HB.out⟩
theorem ContainsFunc_st110.calls (A0 : Option Addr) (c0 : Nat) (l0 : List (S110)) (fc : FuncId) (caps : Array Value) (p : S110 → Bool) (w : World) (hr0 : Kd.C k110 w A0 l0.length l0) (hc0 : l0.length ≤ c0) (hp : X0.FnB Tryz.prog fc caps w (fun x => .agg #[.int .i64 x.f0, .int .i64 x.f1, .int .i64 x.f2, .int .i64 x.f3, .int .i64 x.f4]) p) :
    Calls Tryz.prog 134 #[.slice A0 l0.length c0, .func (.func fc) #[] caps] w fun e w' => e = .returned (.bool (l0.any p)) ∧ Below w.heap.size w w' := by
  have HI := Aside0.mk (IndexFunc_st110.calls A0 c0 l0 fc caps p w hr0 hc0 hp)
  clear hr0 hc0 hp
  go_enter Tryz.func134, Tryz.ntmps134
  go_wp2_with (first | (go_at_call 168; refine HI.out.mono ?_; rintro e w6 ⟨rfl, hb6⟩; have HB := Aside0.mk hb6; clear hb6))
  go_ret
  exact ⟨by
      rw [← X0.idx_any p l0]
      rfl, HB.out⟩
theorem delf110_flat : IN.Flat k110 (fun x : S110 => ([.int .i64 x.f0, .int .i64 x.f1, .int .i64 x.f2, .int .i64 x.f3, .int .i64 x.f4] : List Value)) := ⟨fun h => k110_openM h, fun w base ok x => k110_mkM w base ok x, fun h => k110_open h⟩
theorem delf110_zero (w : World) : (zeroValue 110).run Tryz.prog w = .ok (.agg #[(.int .i64 0), (.int .i64 0), (.int .i64 0), (.int .i64 0), (.int .i64 0)]) w := by
  obtain ⟨i0, hi, hz⟩ := Option.map_eq_some_iff.1 info110
  simp only [Prod.mk.injEq] at hz
  simp [zeroValue, typeInfo, hi, hz.1]
theorem DeleteFunc_st110.some_ (g c i0 : Nat) (l0 : List (S110)) (fc : FuncId) (caps : Array Value) (p : S110 → Bool) (w : World) (hraw : DG.Raw (fun x : S110 => ([.int .i64 x.f0, .int .i64 x.f1, .int .i64 x.f2, .int .i64 x.f3, .int .i64 x.f4] : List Value)) 5 110 c g w l0) (hlc : l0.length ≤ c) (hcm : c ≤ maxLen) (hl : l0.length < 1048577)
    (hp : DG.FnG Tryz.prog fc caps w g (fun x : S110 => .agg #[.int .i64 x.f0, .int .i64 x.f1, .int .i64 x.f2, .int .i64 x.f3, .int .i64 x.f4]) p) (hi0 : i0 < l0.length) (hx : X0.idx p l0 = (i0 : Int)) (ht : p (l0.getD i0 z110) = true) (ha : ∀ x ∈ l0.take i0, p x = false) :
    Calls Tryz.prog 169 #[.slice (some ⟨g, 0, none⟩) l0.length c, .func (.func fc) #[] caps] w fun e w' => e = .returned (.slice (some ⟨g, 0, none⟩) (l0.filter fun x => !p x).length c) ∧ w.grownBy w' (some g) ∧ DG.Raw (fun x : S110 => ([.int .i64 x.f0, .int .i64 x.f1, .int .i64 x.f2, .int .i64 x.f3, .int .i64 x.f4] : List Value)) 5 110 c g w' (l0.filter fun x => !p x) := by
  have hu110 := Tryz.underlying110
  have HI := Aside0.mk (IndexFunc_st110.calls (some ⟨g, 0, none⟩) c l0 fc caps p w (DG.Raw.reads delf110_flat rfl hraw hlc hcm) hlc hp.below)
  obtain ⟨fn, hf, hn, hb, hcall⟩ := hp
  have HF := Aside0.mk hf
  have HN := Aside0.mk hn
  have HBo := Aside0.mk hb
  have HP := Aside0.mk hcall
  have HRW := Aside0.mk hraw
  have HST := Aside0.mk (DG.KI.start (p := p) z110 hi0 ht ha)
  have HX := Aside0.mk hx
  have hm : c ≤ 9223372036854775807 := by unfold maxLen at hcm; exact hcm
  have hne1 : ((i0 : Int) == -1) = false := beq_eq_false_iff_ne.2 (by omega)
  clear hf hn hb hcall hraw ht ha hx
  go_enter Tryz.func169, Tryz.ntmps169
  go_wp2_with (go_at_call 168; refine HI.out.mono ?_; rintro e w6 ⟨rfl, hb6⟩; rw [HX.out]; have HB := Aside0.mk hb6; clear hb6)
  go_loopg [5, 6] l0.length (fun kq v5 v6 wr => ∃ (i j : Nat) (xs : List (S110)), v5 = .int .i64 (i : Int) ∧ v6 = .int .i64 (j : Int) ∧ Aside0 (DG.KI p l0 xs i j ∧ l0.length - j ≤ kq) ∧ Aside0 (w.grownBy wr (some g)) ∧ Aside0 (DG.Raw (fun x : S110 => ([.int .i64 x.f0, .int .i64 x.f1, .int .i64 x.f2, .int .i64 x.f3, .int .i64 x.f4] : List Value)) 5 110 c g wr xs))
  case atStart => exact ⟨i0, i0 + 1, l0, rfl, by go_num, ⟨HST.out, by omega⟩, ⟨grown_of_below HB.out _⟩, ⟨HRW.out.later HB.out⟩⟩
  case round =>
    obtain ⟨i, j, xs, rfl, rfl, HK, HG, HR⟩ := hrel
    by_cases hlt : j < l0.length
    · have hxj := (HK.out.1).at z110 hlt
      have hjx : j < xs.length := by rw [HK.out.1.len]; exact hlt
      obtain ⟨x, hx0⟩ : ∃ x, x = l0.getD j z110 := ⟨_, rfl⟩
      have HX0 := Aside0.mk hx0
      have hx_0 := HR.out.cell delf110_flat rfl z110 j 0 hjx (.int .i64 x.f0) (by rw [hxj, ← hx0]; rfl)
      have hx_1 := HR.out.cell delf110_flat rfl z110 j 1 hjx (.int .i64 x.f1) (by rw [hxj, ← hx0]; rfl)
      have hx_2 := HR.out.cell delf110_flat rfl z110 j 2 hjx (.int .i64 x.f2) (by rw [hxj, ← hx0]; rfl)
      have hx_3 := HR.out.cell delf110_flat rfl z110 j 3 hjx (.int .i64 x.f3) (by rw [hxj, ← hx0]; rfl)
      have hx_4 := HR.out.cell delf110_flat rfl z110 j 4 hjx (.int .i64 x.f4) (by rw [hxj, ← hx0]; rfl)
      rw [Nat.add_zero] at hx_0
      have hij : i < j := HK.out.1.lt
      have hjc : j < c := by omega
      clear hxj hjx hx0
      cases hpx : p x with
      | true =>
        have HPX := Aside0.mk hpx
        clear hpx
        go_wp2_with (first | ((with_reducible refine gate_dst (N := 28) rfl ?_); refine X0.goesV_ (some 28) rfl rfl caps HF.out HN.out HBo.out #[.agg #[.int .i64 x.f0, .int .i64 x.f1, .int .i64 x.f2, .int .i64 x.f3, .int .i64 x.f4]] rfl rfl (by (try simp only [List.map_toArray, List.map_cons, List.map_nil]); first | done | rfl) ?_; refine (HP.out x _ (DG.grown_below HG.out (below_alloc (Below.refl _ _) _))).mono ?_; rintro e w9 ⟨rfl, hb9⟩; refine ⟨_, rfl, ?_⟩; rw [HPX.out]; have HB9 := Aside0.mk hb9; skip; clear hb9))
        go_roundg (l0.length - (j + 1))
        case measure => have := HK.out.2; omega
        case rel => exact ⟨i, j + 1, xs, rfl, by go_num, ⟨HK.out.1.skip z110 hlt (by rw [← HX0.out]; exact HPX.out), Nat.le_refl _⟩, ⟨DG.grown_below (DG.grown_below HG.out (below_alloc (Below.refl _ _) _)) HB9.out⟩, ⟨(HR.out.later (below_alloc (Below.refl _ _) _)).later HB9.out⟩⟩
      | false =>
        have HPX := Aside0.mk hpx
        clear hpx
        have hix : i < xs.length := by have := HK.out.1.len; omega
        have hic : i < c := by omega
        have hiz : (i : Int) < (l0.length : Int) := by omega
        go_wp2_with (first | ((with_reducible refine gate_dst (N := 28) rfl ?_); refine X0.goesV_ (some 28) rfl rfl caps HF.out HN.out HBo.out #[.agg #[.int .i64 x.f0, .int .i64 x.f1, .int .i64 x.f2, .int .i64 x.f3, .int .i64 x.f4]] rfl rfl (by (try simp only [List.map_toArray, List.map_cons, List.map_nil]); first | done | rfl) ?_; refine (HP.out x _ (DG.grown_below HG.out (below_alloc (Below.refl _ _) _))).mono ?_; rintro e w9 ⟨rfl, hb9⟩; refine ⟨_, rfl, ?_⟩; rw [HPX.out]; have HB9 := Aside0.mk hb9; have hy_0 := (hb9.cell (p := ⟨wr.heap.size, 0, none⟩) (by simp)).trans ((DG.cell_new wr _ _ 0).trans (rfl : _ = some (Value.int .i64 x.f0))); have hy_1 := (hb9.cell (p := ⟨wr.heap.size, 1, none⟩) (by simp)).trans ((DG.cell_new wr _ _ 1).trans (rfl : _ = some (Value.int .i64 x.f1))); have hy_2 := (hb9.cell (p := ⟨wr.heap.size, 2, none⟩) (by simp)).trans ((DG.cell_new wr _ _ 2).trans (rfl : _ = some (Value.int .i64 x.f2))); have hy_3 := (hb9.cell (p := ⟨wr.heap.size, 3, none⟩) (by simp)).trans ((DG.cell_new wr _ _ 3).trans (rfl : _ = some (Value.int .i64 x.f3))); have hy_4 := (hb9.cell (p := ⟨wr.heap.size, 4, none⟩) (by simp)).trans ((DG.cell_new wr _ _ 4).trans (rfl : _ = some (Value.int .i64 x.f4))); have RW9 := (HR.out.later (below_alloc (Below.refl _ _) (Obj.cells #[.int .i64 x.f0, .int .i64 x.f1, .int .i64 x.f2, .int .i64 x.f3, .int .i64 x.f4] 110 (0, 0)))).later hb9; have hd_0 := RW9.cell delf110_flat rfl z110 i 0 hix (.int .i64 (xs.getD i z110).f0) rfl; have hf_0 := RW9.frozen (i * 5 + 0); have hd_1 := RW9.cell delf110_flat rfl z110 i 1 hix (.int .i64 (xs.getD i z110).f1) rfl; have hf_1 := RW9.frozen (i * 5 + 1); have hd_2 := RW9.cell delf110_flat rfl z110 i 2 hix (.int .i64 (xs.getD i z110).f2) rfl; have hf_2 := RW9.frozen (i * 5 + 2); have hd_3 := RW9.cell delf110_flat rfl z110 i 3 hix (.int .i64 (xs.getD i z110).f3) rfl; have hf_3 := RW9.frozen (i * 5 + 3); have hd_4 := RW9.cell delf110_flat rfl z110 i 4 hix (.int .i64 (xs.getD i z110).f4) rfl; have hf_4 := RW9.frozen (i * 5 + 4); rw [Nat.add_zero] at hd_0 hf_0; have HW9 := Aside0.mk RW9; clear RW9; clear hb9))
        go_roundg (l0.length - (j + 1))
        case measure => have := HK.out.2; omega
        case rel =>
          have hk2 := HK.out.1.keep z110 hlt (by rw [← HX0.out]; exact HPX.out)
          rw [← HX0.out] at hk2
          exact ⟨i + 1, j + 1, xs.set i x, by go_num, by go_num, ⟨hk2, Nat.le_refl _⟩, ⟨DG.grown_row (DG.grown_below (DG.grown_below HG.out (below_alloc (Below.refl _ _) _)) HB9.out) (IN.grown_set (g := g) ([.int .i64 x.f0, .int .i64 x.f1, .int .i64 x.f2, .int .i64 x.f3, .int .i64 x.f4] : List Value) (i * 5))⟩, ⟨HW9.out.set delf110_flat rfl i x hix⟩⟩
    · have hj : j = l0.length := by have := HK.out.1.le; omega
      subst hj
      have hil : i < l0.length := HK.out.1.lt
      have hlen := HK.out.1.len
      have hic : i < c := by omega
      have hic2 : ¬ (c = i) := by omega
      have hcl := fun ty => DL.run_clear_k (P := Tryz.prog) wr 33 110 ty (.agg #[(.int .i64 0), (.int .i64 0), (.int .i64 0), (.int .i64 0), (.int .i64 0)]) Tryz.underlying33 delf110_zero 5 rfl (by intro v hv; simp [Value.cells] at hv; simp [hv, Value.oneCell']) g (i * 5) (l0.length - i) (c - i) (fun t ht => HR.out.some_ delf110_flat rfl (i * 5 + t) (by rw [hlen]; omega)) (fun t _ => HR.out.frozen _)
      clear hlen
      go_wp2
      go_ret
      have hdone := HK.out.1.done
      have hlen2 := HK.out.1.len
      have hfl : (l0.filter fun x => !p x).length = i := by rw [← hdone, List.length_take]; omega
      refine ⟨by rw [hfl]; rfl, DG.grown_row HG.out (IN.grown_set _ _), ?_⟩
      rw [← hdone]
      exact HR.out.cut delf110_flat rfl i (by omega) _ (by rw [DL.zeroCells_len, hlen2]; rfl)
theorem DeleteFunc_st110.none_ (A0 : Option Addr) (c0 : Nat) (l0 : List (S110)) (fc : FuncId) (caps : Array Value) (p : S110 → Bool) (w : World) (hr0 : Kd.C k110 w A0 l0.length l0) (hc0 : l0.length ≤ c0) (hp : X0.FnB Tryz.prog fc caps w (fun x => .agg #[.int .i64 x.f0, .int .i64 x.f1, .int .i64 x.f2, .int .i64 x.f3, .int .i64 x.f4]) p) (hx : X0.idx p l0 = -1) :
    Calls Tryz.prog 169 #[.slice A0 l0.length c0, .func (.func fc) #[] caps] w fun e w' => e = .returned (.slice A0 l0.length c0) ∧ Below w.heap.size w w' := by
  have HI := Aside0.mk (IndexFunc_st110.calls A0 c0 l0 fc caps p w hr0 hc0 hp)
  have HX := Aside0.mk hx
  clear hr0 hc0 hp hx
  go_enter Tryz.func169, Tryz.ntmps169
  go_wp2_with (go_at_call 168; refine HI.out.mono ?_; rintro e w6 ⟨rfl, hb6⟩; rw [HX.out]; have HB := Aside0.mk hb6; clear hb6)
  go_ret
  exact ⟨rfl, HB.out⟩
theorem DeleteFunc_st110.calls (base : Nat) (ok : Nat → Prop) (v : Value) (l0 : List (S110)) (fc : FuncId) (caps : Array Value) (p : S110 → Bool) (w : World) (ho : Kd.R k110 110 w base ok v l0) (hl : l0.length < 1048577) (hb : X0.FnB Tryz.prog fc caps w (fun x => .agg #[.int .i64 x.f0, .int .i64 x.f1, .int .i64 x.f2, .int .i64 x.f3, .int .i64 x.f4]) p)
    (hp : ∀ g, v.ownBlock = some g → base ≤ g → DG.FnG Tryz.prog fc caps w g (fun x : S110 => .agg #[.int .i64 x.f0, .int .i64 x.f1, .int .i64 x.f2, .int .i64 x.f3, .int .i64 x.f4]) p) :
    Calls Tryz.prog 169 #[v, .func (.func fc) #[] caps] w fun e w' => ∃ v', e = .returned v' ∧ Kd.R k110 110 w' base ok v' (l0.filter fun x => !p x) ∧ w.grownBy w' v.ownBlock := by
  rcases DG.idx_cases p z110 l0 with ⟨hx, ha⟩ | ⟨i0, hi0, hx, ht, ha⟩
  · obtain ⟨A0, c0, e0⟩ := Kd.R_slice ho
    subst e0
    have hr := Kd.R_reads' ho
    refine (DeleteFunc_st110.none_ A0 c0 l0 fc caps p w hr.2.2 hr.2.1 hb hx).mono ?_
    rintro e w' ⟨rfl, hb'⟩
    rw [DG.filter_all p l0 ha]
    exact ⟨_, rfl, Kd.R_below ho hb', grown_of_below hb' _⟩
  · obtain ⟨hv, hv2⟩ | ⟨g, c, rfl⟩ := IN.R_cases ho
    · subst hv2
      exact absurd hi0 (Nat.not_lt_zero _)
    obtain ⟨n1, n2, n3, n4, n5, _⟩ := IN.R_raw delf110_flat ho
    have hraw := DG.Raw.of_R delf110_flat ho
    have hFG := hp g (by simp [Value.ownBlock]) n4
    refine (DeleteFunc_st110.some_ g c i0 l0 fc caps p w hraw n2 n3 hl hFG hi0 hx ht ha).mono ?_
    rintro e w' ⟨rfl, hg, hr⟩
    have hfl : (l0.filter fun x => !p x).length ≤ c := Nat.le_trans (List.length_filter_le _ _) n2
    exact ⟨_, rfl, hr.to_R delf110_flat rfl n4 n5 hfl n3, by simpa [Value.ownBlock] using hg⟩
theorem impl_lotsOf.is_ (x : S110) (a1 a2 : Int) : impl_isLot.f x.f0 x.f1 x.f2 x.f3 x.f4 a1 a2 = some (decide (x.f0 = a1 ∧ x.f1 = a2)) := by
  unfold impl_isLot.f
  by_cases h1 : x.f0 = a1 <;> by_cases h2 : x.f1 = a2 <;> simp [h1, h2]
theorem impl_lotsOf.clo (B1 B2 : Nat) (a1 a2 : Int) (x : S110) (W : World) (h1 : W.cell? ⟨B1, 0, none⟩ = some (.int .i64 a1)) (h2 : W.cell? ⟨B2, 0, none⟩ = some (.int .i64 a2)) :
    Calls Tryz.prog 170 #[.agg #[.int .i64 x.f0, .int .i64 x.f1, .int .i64 x.f2, .int .i64 x.f3, .int .i64 x.f4], .pointer (some ⟨B1, 0, none⟩), .pointer (some ⟨B2, 0, none⟩)] W fun e W' => e = .returned (.bool (!decide (x.f0 = a1 ∧ x.f1 = a2))) ∧ Below W.heap.size W W' := by
  have HB := Aside0.mk (Below.refl W.heap.size W)
  have HI := Aside0.mk (impl_lotsOf.is_ x a1 a2)
  obtain ⟨q, hq⟩ : ∃ q, decide (x.f0 = a1 ∧ x.f1 = a2) = q := ⟨_, rfl⟩
  rw [hq] at HI ⊢
  clear hq
  have HQ := Aside0.mk (show ∀ W2, Below W.heap.size W W2 → Calls Tryz.prog 171 #[.agg #[.int .i64 x.f0, .int .i64 x.f1, .int .i64 x.f2, .int .i64 x.f3, .int .i64 x.f4], .int .i64 a1, .int .i64 a2] W2 fun e W' => e = .returned (.bool q) ∧ Below W2.heap.size W2 W' from fun W2 _ => impl_isLot.calls _ _ _ _ _ _ _ q W2 HI.out)
  have g1 := Lib.cell?_alloc_some (.cells #[.int .i64 x.f0, .int .i64 x.f1, .int .i64 x.f2, .int .i64 x.f3, .int .i64 x.f4] 110 (0, 0)) h1
  have g2 := Lib.cell?_alloc_some (.cells #[.int .i64 x.f0, .int .i64 x.f1, .int .i64 x.f2, .int .i64 x.f3, .int .i64 x.f4] 110 (0, 0)) h2
  clear h1 h2
  go_enter Tryz.func170, Tryz.ntmps170
  go_wp2_with (go_at_call 171; refine (HQ.out _ (below_alloc HB.out _)).mono ?_; rintro e w6 ⟨rfl, hb6⟩; have HB6 := Aside0.mk hb6; clear hb6)
  all_goals
    go_ret
    exact ⟨by first | rfl | (simp; done) | (simp [*]; done), below_step (below_alloc HB.out _) HB6.out⟩
theorem impl_lotsOf.up (w : World) (o1 o2 : Obj) : w.heap.size ≤ ((w.alloc o1).alloc o2).heap.size := by simp; omega
theorem impl_lotsOf.lt1 {w : World} {o1 o2 : Obj} {g : Nat} (h : ((w.alloc o1).alloc o2).heap.size ≤ g) : w.heap.size < g := by simp at h; omega
theorem impl_lotsOf.lt2 {w : World} {o1 o2 : Obj} {g : Nat} (h : ((w.alloc o1).alloc o2).heap.size ≤ g) : w.heap.size + 1 < g := by simp at h; omega
theorem impl_lotsOf.c1 {w w5 : World} {u1 : Value} {t : Nat} {o2 : Obj} (hb : Below ((w.alloc (.cells #[u1] t (0, 0))).alloc o2).heap.size ((w.alloc (.cells #[u1] t (0, 0))).alloc o2) w5) : w5.cell? ⟨w.heap.size, 0, none⟩ = some u1 :=
  (hb.cell (by simp; omega)).trans (Lib.cell?_alloc_some o2 (DG.cell_new w #[u1] t 0))
theorem impl_lotsOf.c2 {w w5 : World} {o1 : Obj} {u2 : Value} {t : Nat} (hb : Below ((w.alloc o1).alloc (.cells #[u2] t (0, 0))).heap.size ((w.alloc o1).alloc (.cells #[u2] t (0, 0))) w5) : w5.cell? ⟨w.heap.size + 1, 0, none⟩ = some u2 := by
  have e : (w.alloc o1).heap.size = w.heap.size + 1 := by simp
  have h := DG.cell_new (w.alloc o1) #[u2] t 0
  rw [e] at h
  exact (hb.cell (by simp)).trans h
theorem impl_lotsOf.own {w : World} {base : Nat} {ok : Nat → Prop} {v : Value} {xs : List (S110)} (h : Kd.R k110 110 w base ok v xs) (k : Nat) (hk : v.ownBlock = some k) : base ≤ k := by
  obtain ⟨hv, _⟩ | ⟨g, c, rfl⟩ := IN.R_cases h
  · subst hv
    simp [Value.ownBlock] at hk
  · obtain ⟨_, _, _, n4, _, _⟩ := IN.R_raw delf110_flat h
    simp [Value.ownBlock] at hk
    omega
theorem impl_lotsOf.predB {B1 B2 : Nat} {a1 a2 : Int} {w : World} (c1 : w.cell? ⟨B1, 0, none⟩ = some (.int .i64 a1)) (c2 : w.cell? ⟨B2, 0, none⟩ = some (.int .i64 a2)) :
    X0.FnB Tryz.prog 170 #[.pointer (some ⟨B1, 0, none⟩), .pointer (some ⟨B2, 0, none⟩)] w (fun x : S110 => .agg #[.int .i64 x.f0, .int .i64 x.f1, .int .i64 x.f2, .int .i64 x.f3, .int .i64 x.f4]) (fun x => !decide (x.f0 = a1 ∧ x.f1 = a2)) :=
  ⟨_, Tryz.func170, by kernel_rfl, rfl, fun x W hW => impl_lotsOf.clo B1 B2 a1 a2 x W ((hW.cell (World.block_lt_of_cell? w _ c1)).trans c1) ((hW.cell (World.block_lt_of_cell? w _ c2)).trans c2)⟩
theorem impl_lotsOf.predG {B1 B2 g : Nat} {a1 a2 : Int} {w : World} (c1 : w.cell? ⟨B1, 0, none⟩ = some (.int .i64 a1)) (c2 : w.cell? ⟨B2, 0, none⟩ = some (.int .i64 a2)) (n1 : B1 < g) (n2 : B2 < g) :
    DG.FnG Tryz.prog 170 #[.pointer (some ⟨B1, 0, none⟩), .pointer (some ⟨B2, 0, none⟩)] w g (fun x : S110 => .agg #[.int .i64 x.f0, .int .i64 x.f1, .int .i64 x.f2, .int .i64 x.f3, .int .i64 x.f4]) (fun x => !decide (x.f0 = a1 ∧ x.f1 = a2)) :=
  ⟨_, Tryz.func170, by kernel_rfl, rfl, fun x W hW => impl_lotsOf.clo B1 B2 a1 a2 x W (hW.cell c1 (by simp; omega)) (hW.cell c2 (by simp; omega))⟩
theorem impl_lotsOf.calls (A0 : Option Addr) (c0 : Nat) (l0 : List (S110)) (a1 a2 : Int) (r : List (S110)) (w : World) (hr0 : Kd.C k110 w A0 l0.length l0) (hc0 : l0.length ≤ c0) (h : impl_lotsOf.f l0 a1 a2 = some r) :
    Calls Tryz.prog 137 #[.slice A0 l0.length c0, .int .i64 a1, .int .i64 a2] w fun e w' => ∃ v0_ : Value, e = .returned (v0_) ∧ Kd.R k110 110 w' w.heap.size (fun _ => True) v0_ r ∧ Below w.heap.size w w' := by
  unfold impl_lotsOf.f at h
  by_cases hl : l0.length < 1048577
  · rw [if_pos hl] at h
    obtain rfl := Option.some.inj h
    clear h
    have hcl : impl_Lot_100.f l0 = some l0 := by
      unfold impl_Lot_100.f
      rw [Option.bind_some, List.length_nil, if_pos (by omega), List.nil_append]
    have HC := Aside0.mk hcl
    have HR0 := Aside0.mk hr0
    have HC0 := Aside0.mk hc0
    have HB := Aside0.mk (Below.refl w.heap.size w)
    have HL := Aside0.mk hl
    clear hr0 hc0 hcl hl
    go_enter Tryz.func137, Tryz.ntmps137
    go_wp2_with (first | (go_at_call 100; refine (impl_Lot_100.calls A0 c0 l0 l0 _ (Kd.C_alloc (Kd.C_alloc HR0.out _) _) HC0.out HC.out).mono ?_; rintro e w5 ⟨v, rfl, ho, hb⟩; have HO := Aside0.mk ho; have HB5 := Aside0.mk hb; clear ho hb) | (go_at_call 169; refine (DeleteFunc_st110.calls _ _ v l0 170 #[.pointer (some ⟨w.heap.size, 0, none⟩), .pointer (some ⟨w.heap.size + 1, 0, none⟩)] (fun x => !decide (x.f0 = a1 ∧ x.f1 = a2)) _ HO.out HL.out (impl_lotsOf.predB (impl_lotsOf.c1 HB5.out) (impl_lotsOf.c2 HB5.out)) (fun g _ hg => impl_lotsOf.predG (impl_lotsOf.c1 HB5.out) (impl_lotsOf.c2 HB5.out) (impl_lotsOf.lt1 hg) (impl_lotsOf.lt2 hg))).mono ?_; rintro e w6 ⟨v6, rfl, ho, hg⟩; have HO6 := Aside0.mk ho; have HG6 := Aside0.mk hg; clear ho hg))
    go_ret
    have hsz := impl_lotsOf.up w (.cells #[.int .i64 a1] 3 (0, 0)) (.cells #[.int .i64 a2] 3 (0, 0))
    refine ⟨v6, by first | rfl | (simp; done) | (simp [*]; done), ?_, ?_⟩
    · have hR := Kd.R_lower HO6.out hsz
      have e : (l0.filter fun x => !(!decide (x.f0 = a1 ∧ x.f1 = a2))) = l0.filter fun x => decide (x.f0 = a1 ∧ x.f1 = a2) := by simp only [Bool.not_not]
      rw [e] at hR
      exact hR
    · have hb5 := below_step (below_alloc (below_alloc (Below.refl _ _) _) _) HB5.out
      exact hb5.grown HG6.out (below_size hb5) (fun k hk => Nat.le_trans hsz (impl_lotsOf.own HO.out k hk))
  · rw [if_neg hl] at h
    cases h
theorem impl_LotsOk.in_ (a lo hi : Int) : impl_in.f a lo hi = some (decide (lo ≤ a ∧ a ≤ hi)) := by
  unfold impl_in.f
  by_cases h : a ≥ lo
  · rw [if_pos h]
    congr 1
    rw [Bool.eq_iff_iff, decide_eq_true_iff, decide_eq_true_iff]
    omega
  · rw [if_neg h]
    congr 1
    symm
    rw [decide_eq_false_iff_not]
    omega
theorem impl_LotsOk.amt_ (a : Int) : impl_AmountOk.f a = some (impl_LotsOk.amt a) := by
  unfold impl_AmountOk.f impl_LotsOk.amt
  rw [impl_LotsOk.in_]
  rfl
theorem impl_LotsOk.no_ (a : Int) : impl_isNo.f a = some (decide (1 ≤ a ∧ a ≤ 1000)) := by
  unfold impl_isNo.f
  rw [impl_LotsOk.in_]
  rfl
theorem impl_LotsOk.form_ (x : S110) : impl_lotForm.f x.f0 x.f1 x.f2 x.f3 x.f4 = some (impl_LotsOk.form x) := by
  unfold impl_lotForm.f impl_LotsOk.form
  simp only [impl_LotsOk.in_, impl_LotsOk.no_, Option.bind_some]
  by_cases h0 : 1 ≤ x.f0 ∧ x.f0 ≤ 1000
  · by_cases h1 : 1 ≤ x.f1 ∧ x.f1 ≤ 1000
    · by_cases h2 : 1 ≤ x.f2 ∧ x.f2 ≤ 1000000000
      · by_cases h3 : 1 ≤ x.f3 ∧ x.f3 ≤ 1000000000000000 <;> simp [h0, h1, h2, h3]
      · simp [h0, h1, h2]
    · simp [h0, h1]
  · simp [h0]
theorem impl_LotsOk.cmp_ (a b : S110) : impl_lotBefore.f 1 a.f0 a.f1 a.f2 a.f3 a.f4 b.f0 b.f1 b.f2 b.f3 b.f4 = some (impl_LotsOk.cmp a b) := by
  unfold impl_lotBefore.f impl_byBoth.f impl_LotsOk.cmp
  simp only [impl_byBoth.j0]
  by_cases h0 : a.f0 < b.f0
  · simp [h0]
  · by_cases h1 : a.f0 = b.f0
    · have n1 : ¬b.f0 < a.f0 := by omega
      by_cases h2 : a.f1 < b.f1
      · simp [h1, h2]
      · by_cases h3 : a.f1 = b.f1
        · by_cases h4 : a.f2 < b.f2
          · simp [h1, h3, h4]
          · by_cases h5 : b.f2 < a.f2 <;> simp [h1, h3, h4, h5]
        · have n3 : b.f1 < a.f1 := by omega
          simp [h1, h2, h3, n3]
    · have n1 : b.f0 < a.f0 := by omega
      simp [h0, h1, n1]
theorem impl_LotsOk.sum_go (l : List (S110)) (hl : l.length < 1048577) : ∀ (n i : Nat) (q c : Int), l.length - i = n → i ≤ l.length → impl_sumLots.l0 (n + 1) q c l (l.length : Int) (i : Int) = some (impl_LotsOk.sum3 (l.drop i) q, impl_LotsOk.sum4 (l.drop i) c)
  | 0, i, q, c, hn, hi => by
    have e : i = l.length := by omega
    subst e
    rw [impl_sumLots.l0, if_neg (by omega), List.drop_length]
    rfl
  | n + 1, i, q, c, hn, hi => by
    have h1 : i < l.length := by omega
    rw [impl_sumLots.l0, if_pos (by omega), if_pos (by omega), if_pos (by omega)]
    have hw : wrap64 ((i : Int) + 1) = ((i + 1 : Nat) : Int) := by
      unfold wrap64
      omega
    rw [hw, impl_LotsOk.sum_go l hl n (i + 1) _ _ (by omega) (by omega), List.drop_eq_getElem_cons h1]
    have e : rd_T110 l (i : Int) = l[i] := by
      unfold rd_T110
      rw [Int.toNat_natCast, List.getD_eq_getElem?_getD, List.getElem?_eq_getElem h1]
      rfl
    rw [e]
    rfl
theorem impl_LotsOk.sum_ (l : List (S110)) (hl : l.length < 1048577) : impl_sumLots.f (l.length + 1) l = some (impl_LotsOk.sum3 l 0, impl_LotsOk.sum4 l 0) := impl_LotsOk.sum_go l hl l.length 0 0 0 (by omega) (by omega)
theorem impl_LotsOk.clo (B : Nat) (A0 : Option Addr) (c0 : Nat) (l0 : List (S110)) (x : S110) (W : World) (h1 : W.cell? ⟨B, 0, none⟩ = some (.slice A0 l0.length c0)) (hC : Kd.C k110 W A0 l0.length l0) (hc0 : l0.length ≤ c0) (hl : l0.length < 1048577) :
    Calls Tryz.prog 135 #[.agg #[.int .i64 x.f0, .int .i64 x.f1, .int .i64 x.f2, .int .i64 x.f3, .int .i64 x.f4], .pointer (some ⟨B, 0, none⟩)] W fun e W' => e = .returned (.bool (impl_LotsOk.over l0 x)) ∧ Below W.heap.size W W' := by
  have HB := Aside0.mk (Below.refl W.heap.size W)
  have HC := Aside0.mk hC
  have HC0 := Aside0.mk hc0
  have HF : Aside0 (impl_lotsOf.f l0 x.f0 x.f1 = some (impl_LotsOk.of l0 x.f0 x.f1)) := ⟨by
    unfold impl_lotsOf.f
    rw [if_pos hl]
    rfl⟩
  have HL : Aside0 ((impl_LotsOk.of l0 x.f0 x.f1).length < 1048577) := ⟨Nat.lt_of_le_of_lt (List.length_filter_le _ _) hl⟩
  have HO : Aside0 (impl_LotsOk.over l0 x = if impl_LotsOk.amt (impl_LotsOk.sum3 (impl_LotsOk.of l0 x.f0 x.f1) 0) = true then !impl_LotsOk.amt (impl_LotsOk.sum4 (impl_LotsOk.of l0 x.f0 x.f1) 0) else true) := ⟨rfl⟩
  generalize impl_LotsOk.over l0 x = ov at HO ⊢
  generalize impl_LotsOk.of l0 x.f0 x.f1 = part at HF HL HO
  have HS := Aside0.mk (impl_LotsOk.sum_ part HL.out)
  generalize impl_LotsOk.sum3 part 0 = q at HS HO
  generalize impl_LotsOk.sum4 part 0 = c at HS HO
  have HQ := Aside0.mk (impl_LotsOk.amt_ q)
  have HD := Aside0.mk (impl_LotsOk.amt_ c)
  generalize impl_LotsOk.amt q = bq at HQ HO
  generalize impl_LotsOk.amt c = bc at HD HO
  have g1 := Lib.cell?_alloc_some (.cells #[.int .i64 x.f0, .int .i64 x.f1, .int .i64 x.f2, .int .i64 x.f3, .int .i64 x.f4] 110 (0, 0)) h1
  clear h1 hC hc0 hl
  cases bq with
  | true =>
    obtain rfl : ov = !bc := HO.out
    clear HO
    go_enter Tryz.func135, Tryz.ntmps135
    go_wp2_with (first | (go_at_call 137; refine (impl_lotsOf.calls A0 c0 l0 x.f0 x.f1 part _ (Kd.C_alloc HC.out _) HC0.out HF.out).mono ?_; rintro e w5 ⟨v, rfl, ho, hb⟩; obtain ⟨A1, c1, rfl, hc1, hr1⟩ := Kd.R_reads ho; have n0_ := Aside0.mk (below_step (below_alloc HB.out _) hb); have HR1 := Aside0.mk hr1; have HC1 := Aside0.mk hc1; clear HB; have HB := n0_; clear n0_ ho hb hr1 hc1) | (go_at_call 136; refine (impl_sumLots.calls (part.length + 1) A1 c1 part q c _ HR1.out HC1.out HS.out).mono ?_; rintro e w6 ⟨rfl, hb⟩; have n0_ := Aside0.mk (below_step HB.out hb); clear HB; have HB := n0_; clear n0_ hb) | (go_at_call_of 130 (Value.int .i64 q); refine (impl_AmountOk.calls q _ _ HQ.out).mono ?_; rintro e w7 ⟨rfl, ⟨nd, rfl⟩⟩) | (go_at_call_of 130 (Value.int .i64 c); refine (impl_AmountOk.calls c _ _ HD.out).mono ?_; rintro e w8 ⟨rfl, ⟨nd, rfl⟩⟩))
    go_ret
    exact ⟨by first | rfl | (simp; done) | (simp [*]; done), by repeat (first | (with_reducible first | exact HB.out | apply below_alloc | apply pw_below_drewN | apply below_drew1) | exact HB.out)⟩
  | false =>
    obtain rfl : ov = true := HO.out
    clear HO
    go_enter Tryz.func135, Tryz.ntmps135
    go_wp2_with (first | (go_at_call 137; refine (impl_lotsOf.calls A0 c0 l0 x.f0 x.f1 part _ (Kd.C_alloc HC.out _) HC0.out HF.out).mono ?_; rintro e w5 ⟨v, rfl, ho, hb⟩; obtain ⟨A1, c1, rfl, hc1, hr1⟩ := Kd.R_reads ho; have n0_ := Aside0.mk (below_step (below_alloc HB.out _) hb); have HR1 := Aside0.mk hr1; have HC1 := Aside0.mk hc1; clear HB; have HB := n0_; clear n0_ ho hb hr1 hc1) | (go_at_call 136; refine (impl_sumLots.calls (part.length + 1) A1 c1 part q c _ HR1.out HC1.out HS.out).mono ?_; rintro e w6 ⟨rfl, hb⟩; have n0_ := Aside0.mk (below_step HB.out hb); clear HB; have HB := n0_; clear n0_ hb) | (go_at_call 130; refine (impl_AmountOk.calls q _ _ HQ.out).mono ?_; rintro e w7 ⟨rfl, ⟨nd, rfl⟩⟩))
    go_ret
    exact ⟨by first | rfl | (simp; done) | (simp [*]; done), by repeat (first | (with_reducible first | exact HB.out | apply below_alloc | apply pw_below_drewN | apply below_drew1) | exact HB.out)⟩
theorem impl_LotsOk.pred {B : Nat} {A0 : Option Addr} {c0 : Nat} {l0 : List (S110)} {w : World} (h1 : w.cell? ⟨B, 0, none⟩ = some (.slice A0 l0.length c0)) (hC : Kd.C k110 w A0 l0.length l0) (hc0 : l0.length ≤ c0) (hl : l0.length < 1048577) :
    X0.FnB Tryz.prog 135 #[.pointer (some ⟨B, 0, none⟩)] w (fun x : S110 => .agg #[.int .i64 x.f0, .int .i64 x.f1, .int .i64 x.f2, .int .i64 x.f3, .int .i64 x.f4]) (impl_LotsOk.over l0) :=
  ⟨_, Tryz.func135, by kernel_rfl, rfl, fun x W hW => impl_LotsOk.clo B A0 c0 l0 x W ((hW.cell (World.block_lt_of_cell? w _ h1)).trans h1) (Kd.C_below hC hW) hc0 hl⟩
def impl_LotsOk.T4 : Bool × List (List Nat × List Nat) := (true, [([], []), ([0], [0]), ([1], [1]), ([2, 1], [2]), ([3], [3]), ([4, 3], [3, 4]), ([5, 3, 3], [3, 5]), ([6], [6]), ([6], [6]), ([8, 6], [6, 8]), ([7, 9, 6], [6, 7, 9]), ([10, 6], [6, 10]), ([6], [6]), ([11, 12, 6, 6], [6, 11, 12]), ([13, 6], [6, 13]), ([6, 14, 3], [3, 6, 14]), ([3, 15], [3, 15])])
def impl_LotsOk.B4 : List Nat := [0, 1, 3, 7, 15, 31, 63, 127, 127, 383, 1023, 2047, 127, 8191, 16383, 32767, 65535]
theorem impl_LotsOk.tab4 : rtab .any (opsOf Tryz.f92 4) = impl_LotsOk.T4 := by kernel_rfl
theorem impl_LotsOk.bits4 : waitsOk impl_LotsOk.T4.2 impl_LotsOk.B4 = true := by kernel_rfl
theorem impl_LotsOk.step_ (l : List (S110)) (n : Nat) (x : Int) (h0 : 0 ≤ x) : impl_LotsOk.chk l (n + 1) x.toNat = if impl_LotsOk.form (rd_T110 l x) = true then (if x > 0 then (if 0 ≤ impl_LotsOk.cmp (rd_T110 l (x - 1)) (rd_T110 l x) then false else impl_LotsOk.chk l n (x + 1).toNat) else impl_LotsOk.chk l n (x + 1).toNat) else false := by
  have e1 : (x + 1).toNat = x.toNat + 1 := by omega
  have e2 : (x - 1).toNat = x.toNat - 1 := by omega
  have e3 : x > 0 ↔ 0 < x.toNat := by omega
  unfold rd_T110
  rw [impl_LotsOk.chk, e1, e2]
  generalize impl_LotsOk.form (l.getD x.toNat z110) = b
  generalize impl_LotsOk.cmp (l.getD (x.toNat - 1) z110) (l.getD x.toNat z110) = c
  cases b
  · simp
  · by_cases h1 : 0 < x.toNat
    · have h2 : 0 < x := e3.2 h1
      by_cases h3 : 0 ≤ c
      · simp [h1, h2, h3]
      · simp [h1, h2, h3]
    · have h2 : ¬0 < x := fun h => h1 (e3.1 h)
      simp [h1, h2]
set_option maxHeartbeats 16000000 in
theorem impl_LotsOk.calls (A0 : Option Addr) (c0 : Nat) (l0 : List (S110)) (r : Bool) (w : World) (hr0 : Kd.C k110 w A0 l0.length l0) (hc0 : l0.length ≤ c0) (h : impl_LotsOk.f l0 = some r) :
    Calls Tryz.prog 92 #[.slice A0 l0.length c0] w fun e w' => e = .returned (.bool r) ∧ Below w.heap.size w w' := by
  have hu110 := Tryz.underlying110
  unfold impl_LotsOk.f at h
  by_cases hl : l0.length < 1048577
  · rw [if_pos hl] at h
    obtain rfl := Option.some.inj h
    clear h
    have HL := Aside0.mk hl
    have HC0 := Aside0.mk hc0
    have HQ : Aside0 (impl_LotsOk.ok l0 = if impl_LotsOk.chk l0 l0.length 0 = true then (if (l0.length : Int) > 120 then false else !(l0.any (impl_LotsOk.over l0))) else false) := ⟨rfl⟩
    generalize impl_LotsOk.ok l0 = r at HQ ⊢
    generalize hq0 : impl_LotsOk.chk l0 l0.length 0 = q0 at HQ
    have HK := Aside0.mk hq0
    clear hq0
    have HW := Aside0.mk (below_alloc (Below.refl w.heap.size w) (.cells #[.slice A0 l0.length c0] 33 (0, 0)))
    have HX : Aside0 ((w.alloc (.cells #[.slice A0 l0.length c0] 33 (0, 0))).cell? ⟨w.heap.size, 0, none⟩ = some (.slice A0 l0.length c0)) := ⟨DG.cell_new w #[.slice A0 l0.length c0] 33 0⟩
    have HR1 := Aside0.mk (Kd.C_alloc hr0 (.cells #[.slice A0 l0.length c0] 33 (0, 0)))
    clear hr0 hc0 hl
    go_enter Tryz.func92, Tryz.ntmps92
    go_wp2
    generalize w.alloc (.cells #[.slice A0 l0.length c0] 33 (0, 0)) = w1 at HW HX HR1 ⊢
    have HB := Aside0.mk (Below.refl w1.heap.size w1)
    go_loopg [7] l0.length (fun kq v7 w' => ∃ (x : Int), v7 = .int .i64 x ∧ Aside0 (0 ≤ x ∧ x ≤ l0.length ∧ kq = (l0.length - x).toNat ∧ impl_LotsOk.chk l0 (l0.length - x).toNat x.toNat = q0) ∧ Aside0 (Below w1.heap.size w1 w'))
    case atStart => exact ⟨0, rfl, ⟨Int.le_refl _, by omega, by omega, by rw [Int.sub_zero, Int.toNat_natCast]; exact HK.out⟩, ⟨HB.out⟩⟩
    case round =>
      clear HB
      obtain ⟨x, rfl, HA, HB⟩ := hrel
      by_cases c3 : x < (l0.length : Int)
      · have c3b0 : decide (x < (l0.length : Int)) = true := decide_eq_true c3
        have p1 : 0 ≤ x := HA.out.1
        have HKx : Aside0 (impl_LotsOk.chk l0 ((l0.length - (x + 1)).toNat + 1) x.toNat = q0) := ⟨by
          have h1 := HA.out.2.2.2
          have e1 : (l0.length - x).toNat = (l0.length - (x + 1)).toNat + 1 := by omega
          rw [e1] at h1
          exact h1⟩
        have C3 := Aside0.mk c3
        obtain ⟨ad, e, hx_0, hx_1, hx_2, hx_3, hx_4⟩ := at_T110 HR1.out x p1 c3
        cases e
        replace hx_0 := (HB.out.cell (World.block_lt_of_cell? w1 _ hx_0)).trans hx_0
        replace hx_1 := (HB.out.cell (World.block_lt_of_cell? w1 _ hx_1)).trans hx_1
        replace hx_2 := (HB.out.cell (World.block_lt_of_cell? w1 _ hx_2)).trans hx_2
        replace hx_3 := (HB.out.cell (World.block_lt_of_cell? w1 _ hx_3)).trans hx_3
        replace hx_4 := (HB.out.cell (World.block_lt_of_cell? w1 _ hx_4)).trans hx_4
        replace p1 := eq_true p1
        have q1 := eq_true c3
        clear c3
        go_upto_region 4 with (first | ((with_reducible refine gate_dst (N := 4) rfl ?_); refine box_event ?hg (N := 4) ?hd (cs := #[.int .i64 0, .int .i64 0, .int .i64 0, .int .i64 0, .int .i64 0]) (t := 110) ?hr ?_; (case hd => rfl); (case hg => rfl); (case hr => first | (go_simp; done) | (go_simp; rfl)); intro gb hg w6 hbox hb; have n0_ := Aside0.mk (below_step (by repeat (first | (with_reducible first | exact HB.out | apply below_alloc | apply pw_below_drewN | apply below_drew1) | exact HB.out)) hb); have n1_ := Aside0.mk (hbox); have n2_ := Aside0.mk ((by rw [hg]; exact (below_size (by repeat (first | (with_reducible first | exact HB.out | apply below_alloc | apply pw_below_drewN | apply below_drew1) | exact HB.out))) : w1.heap.size ≤ gb)); clear HB; have HB := n0_; have BK := n1_; have GE := n2_; clear n0_ n1_ n2_; clear hb hbox hg; have hcz_0 : w6.cell? ⟨gb, 0, none⟩ = some (.int .i64 0) := (blk_cell BK.out 0).trans rfl; have hcz_1 : w6.cell? ⟨gb, 1, none⟩ = some (.int .i64 0) := (blk_cell BK.out 1).trans rfl; have hcz_2 : w6.cell? ⟨gb, 2, none⟩ = some (.int .i64 0) := (blk_cell BK.out 2).trans rfl; have hcz_3 : w6.cell? ⟨gb, 3, none⟩ = some (.int .i64 0) := (blk_cell BK.out 3).trans rfl; have hcz_4 : w6.cell? ⟨gb, 4, none⟩ = some (.int .i64 0) := (blk_cell BK.out 4).trans rfl; have hfz_0 := blk_frozen BK.out 0; have hfz_1 := blk_frozen BK.out 1; have hfz_2 := blk_frozen BK.out 2; have hfz_3 := blk_frozen BK.out 3; have hfz_4 := blk_frozen BK.out 4))
        (try simp only [Act.put, List.setIfInBounds_toArray, List.set_cons_zero, List.set_cons_succ])
        have n0_ : Aside0 ((((((w6.setCell ⟨gb, 0, none⟩ (.int .i64 ((rd_T110 l0 x).f0))).setCell ⟨gb, 1, none⟩ (.int .i64 ((rd_T110 l0 x).f1))).setCell ⟨gb, 2, none⟩ (.int .i64 ((rd_T110 l0 x).f2))).setCell ⟨gb, 3, none⟩ (.int .i64 ((rd_T110 l0 x).f3))).setCell ⟨gb, 4, none⟩ (.int .i64 ((rd_T110 l0 x).f4))).heap[gb]? = some (.cells #[.int .i64 ((rd_T110 l0 x).f0), .int .i64 ((rd_T110 l0 x).f1), .int .i64 ((rd_T110 l0 x).f2), .int .i64 ((rd_T110 l0 x).f3), .int .i64 ((rd_T110 l0 x).f4)] 110 (0, 0))) := ⟨by (with_reducible repeat (first | refine blk_drewN ?_ _ | refine blk_drew ?_ | refine blk_alloc ?_ _)); refine blk_put (cs := #[.int .i64 ((rd_T110 l0 x).f0), .int .i64 ((rd_T110 l0 x).f1), .int .i64 ((rd_T110 l0 x).f2), .int .i64 ((rd_T110 l0 x).f3), .int .i64 0]) ?_ 4 _ rfl; (with_reducible repeat (first | refine blk_drewN ?_ _ | refine blk_drew ?_ | refine blk_alloc ?_ _)); refine blk_put (cs := #[.int .i64 ((rd_T110 l0 x).f0), .int .i64 ((rd_T110 l0 x).f1), .int .i64 ((rd_T110 l0 x).f2), .int .i64 0, .int .i64 0]) ?_ 3 _ rfl; (with_reducible repeat (first | refine blk_drewN ?_ _ | refine blk_drew ?_ | refine blk_alloc ?_ _)); refine blk_put (cs := #[.int .i64 ((rd_T110 l0 x).f0), .int .i64 ((rd_T110 l0 x).f1), .int .i64 0, .int .i64 0, .int .i64 0]) ?_ 2 _ rfl; (with_reducible repeat (first | refine blk_drewN ?_ _ | refine blk_drew ?_ | refine blk_alloc ?_ _)); refine blk_put (cs := #[.int .i64 ((rd_T110 l0 x).f0), .int .i64 0, .int .i64 0, .int .i64 0, .int .i64 0]) ?_ 1 _ rfl; (with_reducible repeat (first | refine blk_drewN ?_ _ | refine blk_drew ?_ | refine blk_alloc ?_ _)); refine blk_put (cs := #[.int .i64 0, .int .i64 0, .int .i64 0, .int .i64 0, .int .i64 0]) ?_ 0 _ rfl; (with_reducible repeat (first | refine blk_drewN ?_ _ | refine blk_drew ?_ | refine blk_alloc ?_ _)); exact BK.out⟩
        have n1_ : Aside0 (Below w1.heap.size w1 (((((w6.setCell ⟨gb, 0, none⟩ (.int .i64 ((rd_T110 l0 x).f0))).setCell ⟨gb, 1, none⟩ (.int .i64 ((rd_T110 l0 x).f1))).setCell ⟨gb, 2, none⟩ (.int .i64 ((rd_T110 l0 x).f2))).setCell ⟨gb, 3, none⟩ (.int .i64 ((rd_T110 l0 x).f3))).setCell ⟨gb, 4, none⟩ (.int .i64 ((rd_T110 l0 x).f4)))) := ⟨by repeat (first | (with_reducible first | exact HB.out | apply below_alloc | apply pw_below_drewN | apply below_drew1 | refine below_set ?_ GE.out) | exact HB.out)⟩
        (try clear BK)
        (try clear HB)
        generalize (((((w6.setCell ⟨gb, 0, none⟩ (.int .i64 ((rd_T110 l0 x).f0))).setCell ⟨gb, 1, none⟩ (.int .i64 ((rd_T110 l0 x).f1))).setCell ⟨gb, 2, none⟩ (.int .i64 ((rd_T110 l0 x).f2))).setCell ⟨gb, 3, none⟩ (.int .i64 ((rd_T110 l0 x).f3))).setCell ⟨gb, 4, none⟩ (.int .i64 ((rd_T110 l0 x).f4))) = w15 at n0_ n1_ ⊢
        have BK := n0_
        have HB := n1_
        clear n0_ n1_
        have n0_ := Aside0.mk (blk_drew BK.out)
        have n1_ := Aside0.mk (below_drew1 HB.out)
        clear BK
        clear HB
        have BK := n0_
        have HB := n1_
        clear n0_ n1_
        have HFm := Aside0.mk (impl_LotsOk.form_ (rd_T110 l0 x))
        have HSt := Aside0.mk (impl_LotsOk.step_ l0 (l0.length - (x + 1)).toNat x HA.out.1)
        cases hfm : impl_LotsOk.form (rd_T110 l0 x) with
        | false =>
          have hq : q0 = false := by
            have h1 := HKx.out
            have h2 := HSt.out
            rw [h1, hfm] at h2
            simpa using h2
          rw [hfm] at HFm
          obtain rfl : r = false := by
            have h1 := HQ.out
            rw [hq] at h1
            simpa using h1
          clear HQ HSt hfm hq
          refine start_ (n := 17) (S := fun w' => w'.cell? ⟨gb, 0, none⟩ = some (.int .i64 ((rd_T110 l0 x).f0)) ∧ w'.cell? ⟨gb, 1, none⟩ = some (.int .i64 ((rd_T110 l0 x).f1)) ∧ w'.cell? ⟨gb, 2, none⟩ = some (.int .i64 ((rd_T110 l0 x).f2)) ∧ w'.cell? ⟨gb, 3, none⟩ = some (.int .i64 ((rd_T110 l0 x).f3)) ∧ w'.cell? ⟨gb, 4, none⟩ = some (.int .i64 ((rd_T110 l0 x).f4)) ∧ w'.cell? ⟨w.heap.size, 0, none⟩ = some (.slice (some ad) l0.length c0)) (ds := []) #[false, false, false, false, false, false, false, false, false, false, false, false, false, false, false, false, false] (by kernel_rfl) rfl rfl ⟨(blk_cell BK.out 0).trans rfl, (blk_cell BK.out 1).trans rfl, (blk_cell BK.out 2).trans rfl, (blk_cell BK.out 3).trans rfl, (blk_cell BK.out 4).trans rfl, ((HB.out.cell (World.block_lt_of_cell? w1 _ HX.out)).trans HX.out)⟩ (fun hHeld => ?_); refine with_tabW impl_LotsOk.tab4 impl_LotsOk.bits4 (fun HT_ HW_ => ?_)
          refine take_ (i := 0) (N := some 12) (v := ?_) (a' := ?_) #[true, false, false, false, false, false, false, false, false, false, false, false, false, false, false, false, false] rfl rfl (take_ofW HT_.out HW_.out (by kernel_rfl)) (fun _ _ _ h => h) (Or.inl ⟨by rfl, ?_⟩) hHeld ?_ ?_
          rotate_left
          · rintro w' ⟨s0, s1, s2, s3, s4, s5⟩
            go_simp
            with_reducible rfl
          rotate_left
          · simp only [Act.put, List.setIfInBounds_toArray, List.set_cons_zero, List.set_cons_succ, i64_w, i32_w]
            rfl
          refine one_ (i := 1) (N := some 13) #[true, true, false, false, false, false, false, false, false, false, false, false, false, false, false, false, false] rfl rfl (one_of HT_.out (by kernel_rfl)) (by decide) (fun K hK => ?_)
          refine goes_ Tryz.func132 (by kernel_rfl) rfl #[.agg #[.int .i64 ((rd_T110 l0 x).f0), .int .i64 ((rd_T110 l0 x).f1), .int .i64 ((rd_T110 l0 x).f2), .int .i64 ((rd_T110 l0 x).f3), .int .i64 ((rd_T110 l0 x).f4)]] (by rfl) rfl rfl (by (try simp only [List.map_toArray, List.map_cons, List.map_nil]); first | done | rfl | (simp only [i64_w]; rfl)) ?_
          with_reducible refine (impl_lotForm.calls _ _ _ _ _ false _ HFm.out).mono ?_
          rintro e w7 ⟨rfl, hb⟩
          refine ⟨_, rfl, ?_⟩
          have n0_ := Aside0.mk (blk_below (g := gb) (o := .cells #[.int .i64 ((rd_T110 l0 x).f0), .int .i64 ((rd_T110 l0 x).f1), .int .i64 ((rd_T110 l0 x).f2), .int .i64 ((rd_T110 l0 x).f3), .int .i64 ((rd_T110 l0 x).f4)] 110 (0, 0)) (by (with_reducible repeat (first | refine blk_drewN ?_ _ | refine blk_drew ?_ | refine blk_alloc ?_ _)); exact BK.out) hb)
          have n1_ := Aside0.mk (below_step (by repeat (first | (with_reducible first | exact HB.out | apply below_alloc | apply pw_below_drewN | apply below_drew1 | refine below_set ?_ GE.out) | exact HB.out)) hb)
          clear BK
          clear HB
          have BK := n0_
          have HB := n1_
          clear n0_ n1_ hb
          refine hK.out _ _ ⟨(blk_cell BK.out 0).trans rfl, (blk_cell BK.out 1).trans rfl, (blk_cell BK.out 2).trans rfl, (blk_cell BK.out 3).trans rfl, (blk_cell BK.out 4).trans rfl, ((HB.out.cell (World.block_lt_of_cell? w1 _ HX.out)).trans HX.out)⟩ (fun hHeld => ?_)
          clear hK K
          refine norm_ (a' := ?_) ?_ ?_
          rotate_left
          · show Act.put _ (some 13) _ = _
            simp only [Act.put, List.setIfInBounds_toArray, List.set_cons_zero, List.set_cons_succ, i64_w, i32_w]
            rfl
          refine pure_ (i := 2) (N := some 14) (v := ?_) (a' := ?_) #[true, true, true, false, false, false, false, false, false, false, false, false, false, false, false, false, false] rfl rfl (any_of HT_.out (by kernel_rfl)) (fun _ _ _ h => h) (Or.inl ⟨by rfl, ?_⟩) ?_ ?_
          rotate_left
          · intro w'
            go_simp
            with_reducible rfl
          rotate_left
          · simp only [Act.put, List.setIfInBounds_toArray, List.set_cons_zero, List.set_cons_succ, i64_w, i32_w]
            rfl
          refine pure_ (i := 3) (N := some 15) (v := ?_) (a' := ?_) #[true, true, true, true, false, false, false, false, false, false, false, false, false, false, false, false, false] rfl rfl (any_of HT_.out (by kernel_rfl)) (fun _ _ _ h => h) (Or.inl ⟨by rfl, ?_⟩) ?_ ?_
          rotate_left
          · intro w'
            go_simp
            with_reducible rfl
          rotate_left
          · simp only [Act.put, List.setIfInBounds_toArray, List.set_cons_zero, List.set_cons_succ, i64_w, i32_w]
            rfl
          refine pure_ (i := 4) (N := some 16) (v := undef) (a' := ?_) #[true, true, true, true, true, false, false, false, false, false, false, false, false, false, false, false, false] rfl rfl (any_of HT_.out (by kernel_rfl)) (fun _ _ _ h => h) (Or.inr ⟨by rfl, rfl⟩) ?_ ?_
          rotate_left
          · simp only [Act.put, List.setIfInBounds_toArray, List.set_cons_zero, List.set_cons_succ, i64_w, i32_w]
            rfl
          refine pure_ (i := 5) (N := some 17) (v := undef) (a' := ?_) #[true, true, true, true, true, true, false, false, false, false, false, false, false, false, false, false, false] rfl rfl (any_of HT_.out (by kernel_rfl)) (fun _ _ _ h => h) (Or.inr ⟨by rfl, rfl⟩) ?_ ?_
          rotate_left
          · simp only [Act.put, List.setIfInBounds_toArray, List.set_cons_zero, List.set_cons_succ, i64_w, i32_w]
            rfl
          refine pure_ (i := 6) (N := some 18) (v := undef) (a' := ?_) #[true, true, true, true, true, true, true, false, false, false, false, false, false, false, false, false, false] rfl rfl (any_of HT_.out (by kernel_rfl)) (fun _ _ _ h => h) (Or.inr ⟨by rfl, rfl⟩) ?_ ?_
          rotate_left
          · simp only [Act.put, List.setIfInBounds_toArray, List.set_cons_zero, List.set_cons_succ, i64_w, i32_w]
            rfl
          refine pure_ (i := 7) (N := some 19) (v := undef) (a' := ?_) #[true, true, true, true, true, true, true, true, false, false, false, false, false, false, false, false, false] rfl rfl (any_of HT_.out (by kernel_rfl)) (fun _ _ _ h => h) (Or.inr ⟨by rfl, rfl⟩) ?_ ?_
          rotate_left
          · simp only [Act.put, List.setIfInBounds_toArray, List.set_cons_zero, List.set_cons_succ, i64_w, i32_w]
            rfl
          refine pure_ (i := 8) (N := some 20) (v := undef) (a' := ?_) #[true, true, true, true, true, true, true, true, true, false, false, false, false, false, false, false, false] rfl rfl (any_of HT_.out (by kernel_rfl)) (fun _ _ _ h => h) (Or.inr ⟨by rfl, rfl⟩) ?_ ?_
          rotate_left
          · simp only [Act.put, List.setIfInBounds_toArray, List.set_cons_zero, List.set_cons_succ, i64_w, i32_w]
            rfl
          refine pure_ (i := 9) (N := some 21) (v := undef) (a' := ?_) #[true, true, true, true, true, true, true, true, true, true, false, false, false, false, false, false, false] rfl rfl (any_of HT_.out (by kernel_rfl)) (fun _ _ _ h => h) (Or.inr ⟨by rfl, rfl⟩) ?_ ?_
          rotate_left
          · simp only [Act.put, List.setIfInBounds_toArray, List.set_cons_zero, List.set_cons_succ, i64_w, i32_w]
            rfl
          refine pure_ (i := 10) (N := some 22) (v := undef) (a' := ?_) #[true, true, true, true, true, true, true, true, true, true, true, false, false, false, false, false, false] rfl rfl (any_of HT_.out (by kernel_rfl)) (fun _ _ _ h => h) (Or.inr ⟨by rfl, rfl⟩) ?_ ?_
          rotate_left
          · simp only [Act.put, List.setIfInBounds_toArray, List.set_cons_zero, List.set_cons_succ, i64_w, i32_w]
            rfl
          refine pure_ (i := 11) (N := some 23) (v := undef) (a' := ?_) #[true, true, true, true, true, true, true, true, true, true, true, true, false, false, false, false, false] rfl rfl (any_of HT_.out (by kernel_rfl)) (fun _ _ _ h => h) (Or.inr ⟨by rfl, rfl⟩) ?_ ?_
          rotate_left
          · simp only [Act.put, List.setIfInBounds_toArray, List.set_cons_zero, List.set_cons_succ, i64_w, i32_w]
            rfl
          refine pure_ (i := 12) (N := some 24) (v := undef) (a' := ?_) #[true, true, true, true, true, true, true, true, true, true, true, true, true, false, false, false, false] rfl rfl (any_of HT_.out (by kernel_rfl)) (fun _ _ _ h => h) (Or.inr ⟨by rfl, rfl⟩) ?_ ?_
          rotate_left
          · simp only [Act.put, List.setIfInBounds_toArray, List.set_cons_zero, List.set_cons_succ, i64_w, i32_w]
            rfl
          refine pure_ (i := 13) (N := some 25) (v := undef) (a' := ?_) #[true, true, true, true, true, true, true, true, true, true, true, true, true, true, false, false, false] rfl rfl (any_of HT_.out (by kernel_rfl)) (fun _ _ _ h => h) (Or.inr ⟨by rfl, rfl⟩) ?_ ?_
          rotate_left
          · simp only [Act.put, List.setIfInBounds_toArray, List.set_cons_zero, List.set_cons_succ, i64_w, i32_w]
            rfl
          refine pure_ (i := 14) (N := some 26) (v := undef) (a' := ?_) #[true, true, true, true, true, true, true, true, true, true, true, true, true, true, true, false, false] rfl rfl (any_of HT_.out (by kernel_rfl)) (fun _ _ _ h => h) (Or.inr ⟨by rfl, rfl⟩) ?_ ?_
          rotate_left
          · simp only [Act.put, List.setIfInBounds_toArray, List.set_cons_zero, List.set_cons_succ, i64_w, i32_w]
            rfl
          refine pure_ (i := 15) (N := some 27) (v := undef) (a' := ?_) #[true, true, true, true, true, true, true, true, true, true, true, true, true, true, true, true, false] rfl rfl (any_of HT_.out (by kernel_rfl)) (fun _ _ _ h => h) (Or.inr ⟨by rfl, rfl⟩) ?_ ?_
          rotate_left
          · simp only [Act.put, List.setIfInBounds_toArray, List.set_cons_zero, List.set_cons_succ, i64_w, i32_w]
            rfl
          refine pure_ (i := 16) (N := some 28) (v := ?_) (a' := ?_) #[true, true, true, true, true, true, true, true, true, true, true, true, true, true, true, true, true] rfl rfl (any_of HT_.out (by kernel_rfl)) (fun _ _ _ h => h) (Or.inl ⟨by rfl, ?_⟩) ?_ ?_
          rotate_left
          · intro w'
            go_simp
            with_reducible rfl
          rotate_left
          · simp only [Act.put, List.setIfInBounds_toArray, List.set_cons_zero, List.set_cons_succ, i64_w, i32_w]
            rfl
          refine done_ (done_of HT_.out (by kernel_rfl)) ?_
          go_wp2
          go_ret
          exact ⟨by first | rfl | (simp; done) | (simp [*]; done), below_step HW.out (by repeat (first | (with_reducible first | exact HB.out | apply below_alloc | apply pw_below_drewN | apply below_drew1 | refine below_set ?_ GE.out) | exact HB.out))⟩
        | true =>
          rw [hfm] at HFm
          by_cases c10 : x > 0
          · have c10b0 : decide (0 < x) = true := decide_eq_true c10
            have hw1 : wrap64 (x - 1) = x - 1 := by
              have h1 := HA.out
              have h2 := HL.out
              unfold wrap64
              omega
            have PP : Aside0 (0 ≤ wrap64 (x - 1)) := ⟨by omega⟩
            have QQ : Aside0 (wrap64 (x - 1) < (l0.length : Int)) := ⟨by have := C3.out; omega⟩
            have HCm := Aside0.mk (impl_LotsOk.cmp_ (rd_T110 l0 (wrap64 (x - 1))) (rd_T110 l0 x))
            have HS2 : Aside0 (impl_LotsOk.chk l0 ((l0.length - (x + 1)).toNat + 1) x.toNat = if 0 ≤ impl_LotsOk.cmp (rd_T110 l0 (wrap64 (x - 1))) (rd_T110 l0 x) then false else impl_LotsOk.chk l0 (l0.length - (x + 1)).toNat (x + 1).toNat) := ⟨by
              have h1 := HSt.out
              rw [hfm, if_pos rfl, if_pos c10, ← hw1] at h1
              exact h1⟩
            clear HSt hfm c10 hw1
            generalize impl_LotsOk.cmp (rd_T110 l0 (wrap64 (x - 1))) (rd_T110 l0 x) = cc at HCm HS2
            by_cases c11 : cc ≥ 0
            · have c11b0 : decide (0 ≤ cc) = true := decide_eq_true c11
              have hq : q0 = false := by
                have h2 := HS2.out
                rw [if_pos c11] at h2
                exact HKx.out.symm.trans h2
              obtain rfl : r = false := by
                have h1 := HQ.out
                rw [hq] at h1
                simpa using h1
              clear HQ HS2 hq c11
              obtain ⟨ad2, e2, hx2_0, hx2_1, hx2_2, hx2_3, hx2_4⟩ := at_T110 HR1.out (wrap64 (x - 1)) PP.out QQ.out
              have hw_4 := hx2_4
              have hw_3 := hx2_3
              have hw_2 := hx2_2
              have hw_1 := hx2_1
              have hw_0 := hx2_0
              obtain rfl : ad = ad2 := (by injection e2)
              replace hx2_0 := (HB.out.cell (World.block_lt_of_cell? w1 _ hx2_0)).trans hx2_0
              replace hx2_1 := (HB.out.cell (World.block_lt_of_cell? w1 _ hx2_1)).trans hx2_1
              replace hx2_2 := (HB.out.cell (World.block_lt_of_cell? w1 _ hx2_2)).trans hx2_2
              replace hx2_3 := (HB.out.cell (World.block_lt_of_cell? w1 _ hx2_3)).trans hx2_3
              replace hx2_4 := (HB.out.cell (World.block_lt_of_cell? w1 _ hx2_4)).trans hx2_4
              have p2 := eq_true PP.out
              have q2 := eq_true QQ.out
              refine start_ (n := 17) (S := fun w' => w'.cell? ⟨gb, 0, none⟩ = some (.int .i64 ((rd_T110 l0 x).f0)) ∧ w'.cell? ⟨gb, 1, none⟩ = some (.int .i64 ((rd_T110 l0 x).f1)) ∧ w'.cell? ⟨gb, 2, none⟩ = some (.int .i64 ((rd_T110 l0 x).f2)) ∧ w'.cell? ⟨gb, 3, none⟩ = some (.int .i64 ((rd_T110 l0 x).f3)) ∧ w'.cell? ⟨gb, 4, none⟩ = some (.int .i64 ((rd_T110 l0 x).f4)) ∧ w'.cell? ⟨w.heap.size, 0, none⟩ = some (.slice (some ad) l0.length c0) ∧ w'.cell? (ad.add ((wrap64 (x - 1)).toNat * 5)) = some (.int .i64 ((rd_T110 l0 (wrap64 (x - 1))).f0)) ∧ w'.cell? ⟨(ad.add ((wrap64 (x - 1)).toNat * 5)).block, (ad.add ((wrap64 (x - 1)).toNat * 5)).off + 1, none⟩ = some (.int .i64 ((rd_T110 l0 (wrap64 (x - 1))).f1)) ∧ w'.cell? ⟨(ad.add ((wrap64 (x - 1)).toNat * 5)).block, (ad.add ((wrap64 (x - 1)).toNat * 5)).off + 2, none⟩ = some (.int .i64 ((rd_T110 l0 (wrap64 (x - 1))).f2)) ∧ w'.cell? ⟨(ad.add ((wrap64 (x - 1)).toNat * 5)).block, (ad.add ((wrap64 (x - 1)).toNat * 5)).off + 3, none⟩ = some (.int .i64 ((rd_T110 l0 (wrap64 (x - 1))).f3)) ∧ w'.cell? ⟨(ad.add ((wrap64 (x - 1)).toNat * 5)).block, (ad.add ((wrap64 (x - 1)).toNat * 5)).off + 4, none⟩ = some (.int .i64 ((rd_T110 l0 (wrap64 (x - 1))).f4))) (ds := []) #[false, false, false, false, false, false, false, false, false, false, false, false, false, false, false, false, false] (by kernel_rfl) rfl rfl ⟨(blk_cell BK.out 0).trans rfl, (blk_cell BK.out 1).trans rfl, (blk_cell BK.out 2).trans rfl, (blk_cell BK.out 3).trans rfl, (blk_cell BK.out 4).trans rfl, ((HB.out.cell (World.block_lt_of_cell? w1 _ HX.out)).trans HX.out), ((HB.out.cell (World.block_lt_of_cell? w1 _ hw_0)).trans hw_0), ((HB.out.cell (World.block_lt_of_cell? w1 _ hw_1)).trans hw_1), ((HB.out.cell (World.block_lt_of_cell? w1 _ hw_2)).trans hw_2), ((HB.out.cell (World.block_lt_of_cell? w1 _ hw_3)).trans hw_3), ((HB.out.cell (World.block_lt_of_cell? w1 _ hw_4)).trans hw_4)⟩ (fun hHeld => ?_); refine with_tabW impl_LotsOk.tab4 impl_LotsOk.bits4 (fun HT_ HW_ => ?_)
              refine take_ (i := 0) (N := some 12) (v := ?_) (a' := ?_) #[true, false, false, false, false, false, false, false, false, false, false, false, false, false, false, false, false] rfl rfl (take_ofW HT_.out HW_.out (by kernel_rfl)) (fun _ _ _ h => h) (Or.inl ⟨by rfl, ?_⟩) hHeld ?_ ?_
              rotate_left
              · rintro w' ⟨s0, s1, s2, s3, s4, s5, s6, s7, s8, s9, s10⟩
                go_simp
                with_reducible rfl
              rotate_left
              · simp only [Act.put, List.setIfInBounds_toArray, List.set_cons_zero, List.set_cons_succ, i64_w, i32_w]
                rfl
              refine one_ (i := 1) (N := some 13) #[true, true, false, false, false, false, false, false, false, false, false, false, false, false, false, false, false] rfl rfl (one_of HT_.out (by kernel_rfl)) (by decide) (fun K hK => ?_)
              refine goes_ Tryz.func132 (by kernel_rfl) rfl #[.agg #[.int .i64 ((rd_T110 l0 x).f0), .int .i64 ((rd_T110 l0 x).f1), .int .i64 ((rd_T110 l0 x).f2), .int .i64 ((rd_T110 l0 x).f3), .int .i64 ((rd_T110 l0 x).f4)]] (by rfl) rfl rfl (by (try simp only [List.map_toArray, List.map_cons, List.map_nil]); first | done | rfl | (simp only [i64_w]; rfl)) ?_
              with_reducible refine (impl_lotForm.calls _ _ _ _ _ true _ HFm.out).mono ?_
              rintro e w7 ⟨rfl, hb⟩
              refine ⟨_, rfl, ?_⟩
              have n0_ := Aside0.mk (blk_below (g := gb) (o := .cells #[.int .i64 ((rd_T110 l0 x).f0), .int .i64 ((rd_T110 l0 x).f1), .int .i64 ((rd_T110 l0 x).f2), .int .i64 ((rd_T110 l0 x).f3), .int .i64 ((rd_T110 l0 x).f4)] 110 (0, 0)) (by (with_reducible repeat (first | refine blk_drewN ?_ _ | refine blk_drew ?_ | refine blk_alloc ?_ _)); exact BK.out) hb)
              have n1_ := Aside0.mk (below_step (by repeat (first | (with_reducible first | exact HB.out | apply below_alloc | apply pw_below_drewN | apply below_drew1 | refine below_set ?_ GE.out) | exact HB.out)) hb)
              clear BK
              clear HB
              have BK := n0_
              have HB := n1_
              clear n0_ n1_ hb
              refine hK.out _ _ ⟨(blk_cell BK.out 0).trans rfl, (blk_cell BK.out 1).trans rfl, (blk_cell BK.out 2).trans rfl, (blk_cell BK.out 3).trans rfl, (blk_cell BK.out 4).trans rfl, ((HB.out.cell (World.block_lt_of_cell? w1 _ HX.out)).trans HX.out), ((HB.out.cell (World.block_lt_of_cell? w1 _ hw_0)).trans hw_0), ((HB.out.cell (World.block_lt_of_cell? w1 _ hw_1)).trans hw_1), ((HB.out.cell (World.block_lt_of_cell? w1 _ hw_2)).trans hw_2), ((HB.out.cell (World.block_lt_of_cell? w1 _ hw_3)).trans hw_3), ((HB.out.cell (World.block_lt_of_cell? w1 _ hw_4)).trans hw_4)⟩ (fun hHeld => ?_)
              clear hK K
              refine norm_ (a' := ?_) ?_ ?_
              rotate_left
              · show Act.put _ (some 13) _ = _
                simp only [Act.put, List.setIfInBounds_toArray, List.set_cons_zero, List.set_cons_succ, i64_w, i32_w]
                rfl
              refine pure_ (i := 2) (N := some 14) (v := ?_) (a' := ?_) #[true, true, true, false, false, false, false, false, false, false, false, false, false, false, false, false, false] rfl rfl (any_of HT_.out (by kernel_rfl)) (fun _ _ _ h => h) (Or.inl ⟨by rfl, ?_⟩) ?_ ?_
              rotate_left
              · intro w'
                go_simp
                with_reducible rfl
              rotate_left
              · simp only [Act.put, List.setIfInBounds_toArray, List.set_cons_zero, List.set_cons_succ, i64_w, i32_w]
                rfl
              refine pure_ (i := 3) (N := some 15) (v := ?_) (a' := ?_) #[true, true, true, true, false, false, false, false, false, false, false, false, false, false, false, false, false] rfl rfl (any_of HT_.out (by kernel_rfl)) (fun _ _ _ h => h) (Or.inl ⟨by rfl, ?_⟩) ?_ ?_
              rotate_left
              · intro w'
                go_simp
                with_reducible rfl
              rotate_left
              · simp only [Act.put, List.setIfInBounds_toArray, List.set_cons_zero, List.set_cons_succ, i64_w, i32_w]
                rfl
              refine pure_ (i := 4) (N := some 16) (v := ?_) (a' := ?_) #[true, true, true, true, true, false, false, false, false, false, false, false, false, false, false, false, false] rfl rfl (any_of HT_.out (by kernel_rfl)) (fun _ _ _ h => h) (Or.inl ⟨by rfl, ?_⟩) ?_ ?_
              rotate_left
              · intro w'
                go_simp
                with_reducible rfl
              rotate_left
              · simp only [Act.put, List.setIfInBounds_toArray, List.set_cons_zero, List.set_cons_succ, i64_w, i32_w]
                rfl
              refine pure_ (i := 5) (N := some 17) (v := ?_) (a' := ?_) #[true, true, true, true, true, true, false, false, false, false, false, false, false, false, false, false, false] rfl rfl (any_of HT_.out (by kernel_rfl)) (fun _ _ _ h => h) (Or.inl ⟨by rfl, ?_⟩) ?_ ?_
              rotate_left
              · intro w'
                go_simp
                with_reducible rfl
              rotate_left
              · simp only [Act.put, List.setIfInBounds_toArray, List.set_cons_zero, List.set_cons_succ, i64_w, i32_w]
                rfl
              refine pure_ (i := 6) (N := some 18) (v := ?_) (a' := ?_) #[true, true, true, true, true, true, true, false, false, false, false, false, false, false, false, false, false] rfl rfl (any_of HT_.out (by kernel_rfl)) (fun _ _ _ h => h) (Or.inl ⟨by rfl, ?_⟩) ?_ ?_
              rotate_left
              · intro w'
                go_simp
                with_reducible rfl
              rotate_left
              · simp only [Act.put, List.setIfInBounds_toArray, List.set_cons_zero, List.set_cons_succ, i64_w, i32_w]
                rfl
              refine take_ (i := 7) (N := some 19) (v := ?_) (a' := ?_) #[true, true, true, true, true, true, true, true, false, false, false, false, false, false, false, false, false] rfl rfl (take_ofW HT_.out HW_.out (by kernel_rfl)) (fun _ _ _ h => h) (Or.inl ⟨by rfl, ?_⟩) hHeld ?_ ?_
              rotate_left
              · rintro w' ⟨s0, s1, s2, s3, s4, s5, s6, s7, s8, s9, s10⟩
                go_simp
                with_reducible rfl
              rotate_left
              · simp only [Act.put, List.setIfInBounds_toArray, List.set_cons_zero, List.set_cons_succ, i64_w, i32_w]
                rfl
              refine pure_ (i := 8) (N := some 20) (v := ?_) (a' := ?_) #[true, true, true, true, true, true, true, true, true, false, false, false, false, false, false, false, false] rfl rfl (any_of HT_.out (by kernel_rfl)) (fun _ _ _ h => h) (Or.inl ⟨by rfl, ?_⟩) ?_ ?_
              rotate_left
              · intro w'
                go_simp
                with_reducible rfl
              rotate_left
              · simp only [Act.put, List.setIfInBounds_toArray, List.set_cons_zero, List.set_cons_succ, i64_w, i32_w]
                rfl
              refine pure_ (i := 9) (N := some 21) (v := ?_) (a' := ?_) #[true, true, true, true, true, true, true, true, true, true, false, false, false, false, false, false, false] rfl rfl (any_of HT_.out (by kernel_rfl)) (fun _ _ _ h => h) (Or.inl ⟨by rfl, ?_⟩) ?_ ?_
              rotate_left
              · intro w'
                go_simp
                with_reducible rfl
              rotate_left
              · simp only [Act.put, List.setIfInBounds_toArray, List.set_cons_zero, List.set_cons_succ, i64_w, i32_w]
                rfl
              refine pure_ (i := 10) (N := some 22) (v := ?_) (a' := ?_) #[true, true, true, true, true, true, true, true, true, true, true, false, false, false, false, false, false] rfl rfl (any_of HT_.out (by kernel_rfl)) (fun _ _ _ h => h) (Or.inl ⟨by rfl, ?_⟩) ?_ ?_
              rotate_left
              · intro w'
                go_simp
                with_reducible rfl
              rotate_left
              · simp only [Act.put, List.setIfInBounds_toArray, List.set_cons_zero, List.set_cons_succ, i64_w, i32_w]
                rfl
              refine take_ (i := 11) (N := some 23) (v := ?_) (a' := ?_) #[true, true, true, true, true, true, true, true, true, true, true, true, false, false, false, false, false] rfl rfl (take_ofW HT_.out HW_.out (by kernel_rfl)) (fun _ _ _ h => h) (Or.inl ⟨by rfl, ?_⟩) hHeld ?_ ?_
              rotate_left
              · rintro w' ⟨s0, s1, s2, s3, s4, s5, s6, s7, s8, s9, s10⟩
                go_simp
                with_reducible rfl
              rotate_left
              · simp only [Act.put, List.setIfInBounds_toArray, List.set_cons_zero, List.set_cons_succ, i64_w, i32_w]
                rfl
              refine take_ (i := 12) (N := some 24) (v := ?_) (a' := ?_) #[true, true, true, true, true, true, true, true, true, true, true, true, true, false, false, false, false] rfl rfl (take_ofW HT_.out HW_.out (by kernel_rfl)) (fun _ _ _ h => h) (Or.inl ⟨by rfl, ?_⟩) hHeld ?_ ?_
              rotate_left
              · rintro w' ⟨s0, s1, s2, s3, s4, s5, s6, s7, s8, s9, s10⟩
                go_simp
                with_reducible rfl
              rotate_left
              · simp only [Act.put, List.setIfInBounds_toArray, List.set_cons_zero, List.set_cons_succ, i64_w, i32_w]
                rfl
              refine one_ (i := 13) (N := some 25) #[true, true, true, true, true, true, true, true, true, true, true, true, true, true, false, false, false] rfl rfl (one_of HT_.out (by kernel_rfl)) (by decide) (fun K hK => ?_)
              refine goes_ Tryz.func133 (by kernel_rfl) rfl #[.agg #[.int .i64 ((rd_T110 l0 (wrap64 (x - 1))).f0), .int .i64 ((rd_T110 l0 (wrap64 (x - 1))).f1), .int .i64 ((rd_T110 l0 (wrap64 (x - 1))).f2), .int .i64 ((rd_T110 l0 (wrap64 (x - 1))).f3), .int .i64 ((rd_T110 l0 (wrap64 (x - 1))).f4)], .agg #[.int .i64 ((rd_T110 l0 x).f0), .int .i64 ((rd_T110 l0 x).f1), .int .i64 ((rd_T110 l0 x).f2), .int .i64 ((rd_T110 l0 x).f3), .int .i64 ((rd_T110 l0 x).f4)]] (by rfl) rfl rfl (by (try simp only [List.map_toArray, List.map_cons, List.map_nil]); first | done | rfl | (simp only [i64_w]; rfl)) ?_
              with_reducible refine (impl_lotBefore.calls 1 _ _ _ _ _ _ _ _ _ _ cc _ HCm.out).mono ?_
              rintro e w8 ⟨rfl, hb⟩
              refine ⟨_, rfl, ?_⟩
              have n0_ := Aside0.mk (blk_below (g := gb) (o := .cells #[.int .i64 ((rd_T110 l0 x).f0), .int .i64 ((rd_T110 l0 x).f1), .int .i64 ((rd_T110 l0 x).f2), .int .i64 ((rd_T110 l0 x).f3), .int .i64 ((rd_T110 l0 x).f4)] 110 (0, 0)) (by (with_reducible repeat (first | refine blk_drewN ?_ _ | refine blk_drew ?_ | refine blk_alloc ?_ _)); exact BK.out) hb)
              have n1_ := Aside0.mk (below_step (by repeat (first | (with_reducible first | exact HB.out | apply below_alloc | apply pw_below_drewN | apply below_drew1 | refine below_set ?_ GE.out) | exact HB.out)) hb)
              clear BK
              clear HB
              have BK := n0_
              have HB := n1_
              clear n0_ n1_ hb
              refine hK.out _ _ ⟨(blk_cell BK.out 0).trans rfl, (blk_cell BK.out 1).trans rfl, (blk_cell BK.out 2).trans rfl, (blk_cell BK.out 3).trans rfl, (blk_cell BK.out 4).trans rfl, ((HB.out.cell (World.block_lt_of_cell? w1 _ HX.out)).trans HX.out), ((HB.out.cell (World.block_lt_of_cell? w1 _ hw_0)).trans hw_0), ((HB.out.cell (World.block_lt_of_cell? w1 _ hw_1)).trans hw_1), ((HB.out.cell (World.block_lt_of_cell? w1 _ hw_2)).trans hw_2), ((HB.out.cell (World.block_lt_of_cell? w1 _ hw_3)).trans hw_3), ((HB.out.cell (World.block_lt_of_cell? w1 _ hw_4)).trans hw_4)⟩ (fun hHeld => ?_)
              clear hK K
              refine norm_ (a' := ?_) ?_ ?_
              rotate_left
              · show Act.put _ (some 25) _ = _
                simp only [Act.put, List.setIfInBounds_toArray, List.set_cons_zero, List.set_cons_succ, i64_w, i32_w]
                rfl
              refine pure_ (i := 14) (N := some 26) (v := ?_) (a' := ?_) #[true, true, true, true, true, true, true, true, true, true, true, true, true, true, true, false, false] rfl rfl (any_of HT_.out (by kernel_rfl)) (fun _ _ _ h => h) (Or.inl ⟨by rfl, ?_⟩) ?_ ?_
              rotate_left
              · intro w'
                go_simp
                with_reducible rfl
              rotate_left
              · simp only [Act.put, List.setIfInBounds_toArray, List.set_cons_zero, List.set_cons_succ, i64_w, i32_w]
                rfl
              refine pure_ (i := 15) (N := some 27) (v := ?_) (a' := ?_) #[true, true, true, true, true, true, true, true, true, true, true, true, true, true, true, true, false] rfl rfl (any_of HT_.out (by kernel_rfl)) (fun _ _ _ h => h) (Or.inl ⟨by rfl, ?_⟩) ?_ ?_
              rotate_left
              · intro w'
                go_simp
                with_reducible rfl
              rotate_left
              · simp only [Act.put, List.setIfInBounds_toArray, List.set_cons_zero, List.set_cons_succ, i64_w, i32_w]
                rfl
              refine pure_ (i := 16) (N := some 28) (v := ?_) (a' := ?_) #[true, true, true, true, true, true, true, true, true, true, true, true, true, true, true, true, true] rfl rfl (any_of HT_.out (by kernel_rfl)) (fun _ _ _ h => h) (Or.inl ⟨by rfl, ?_⟩) ?_ ?_
              rotate_left
              · intro w'
                go_simp
                with_reducible rfl
              rotate_left
              · simp only [Act.put, List.setIfInBounds_toArray, List.set_cons_zero, List.set_cons_succ, i64_w, i32_w]
                rfl
              refine done_ (done_of HT_.out (by kernel_rfl)) ?_
              go_wp2
              go_ret
              exact ⟨by first | rfl | (simp; done) | (simp [*]; done), below_step HW.out (by repeat (first | (with_reducible first | exact HB.out | apply below_alloc | apply pw_below_drewN | apply below_drew1 | refine below_set ?_ GE.out) | exact HB.out))⟩
            · have c11b0 : decide (0 ≤ cc) = false := decide_eq_false c11
              have NX : Aside0 (impl_LotsOk.chk l0 (l0.length - (x + 1)).toNat (x + 1).toNat = q0) := ⟨by
                have h2 := HS2.out
                rw [if_neg c11] at h2
                exact h2.symm.trans HKx.out⟩
              clear HS2 c11
              obtain ⟨ad2, e2, hx2_0, hx2_1, hx2_2, hx2_3, hx2_4⟩ := at_T110 HR1.out (wrap64 (x - 1)) PP.out QQ.out
              have hw_4 := hx2_4
              have hw_3 := hx2_3
              have hw_2 := hx2_2
              have hw_1 := hx2_1
              have hw_0 := hx2_0
              obtain rfl : ad = ad2 := (by injection e2)
              replace hx2_0 := (HB.out.cell (World.block_lt_of_cell? w1 _ hx2_0)).trans hx2_0
              replace hx2_1 := (HB.out.cell (World.block_lt_of_cell? w1 _ hx2_1)).trans hx2_1
              replace hx2_2 := (HB.out.cell (World.block_lt_of_cell? w1 _ hx2_2)).trans hx2_2
              replace hx2_3 := (HB.out.cell (World.block_lt_of_cell? w1 _ hx2_3)).trans hx2_3
              replace hx2_4 := (HB.out.cell (World.block_lt_of_cell? w1 _ hx2_4)).trans hx2_4
              have p2 := eq_true PP.out
              have q2 := eq_true QQ.out
              refine start_ (n := 17) (S := fun w' => w'.cell? ⟨gb, 0, none⟩ = some (.int .i64 ((rd_T110 l0 x).f0)) ∧ w'.cell? ⟨gb, 1, none⟩ = some (.int .i64 ((rd_T110 l0 x).f1)) ∧ w'.cell? ⟨gb, 2, none⟩ = some (.int .i64 ((rd_T110 l0 x).f2)) ∧ w'.cell? ⟨gb, 3, none⟩ = some (.int .i64 ((rd_T110 l0 x).f3)) ∧ w'.cell? ⟨gb, 4, none⟩ = some (.int .i64 ((rd_T110 l0 x).f4)) ∧ w'.cell? ⟨w.heap.size, 0, none⟩ = some (.slice (some ad) l0.length c0) ∧ w'.cell? (ad.add ((wrap64 (x - 1)).toNat * 5)) = some (.int .i64 ((rd_T110 l0 (wrap64 (x - 1))).f0)) ∧ w'.cell? ⟨(ad.add ((wrap64 (x - 1)).toNat * 5)).block, (ad.add ((wrap64 (x - 1)).toNat * 5)).off + 1, none⟩ = some (.int .i64 ((rd_T110 l0 (wrap64 (x - 1))).f1)) ∧ w'.cell? ⟨(ad.add ((wrap64 (x - 1)).toNat * 5)).block, (ad.add ((wrap64 (x - 1)).toNat * 5)).off + 2, none⟩ = some (.int .i64 ((rd_T110 l0 (wrap64 (x - 1))).f2)) ∧ w'.cell? ⟨(ad.add ((wrap64 (x - 1)).toNat * 5)).block, (ad.add ((wrap64 (x - 1)).toNat * 5)).off + 3, none⟩ = some (.int .i64 ((rd_T110 l0 (wrap64 (x - 1))).f3)) ∧ w'.cell? ⟨(ad.add ((wrap64 (x - 1)).toNat * 5)).block, (ad.add ((wrap64 (x - 1)).toNat * 5)).off + 4, none⟩ = some (.int .i64 ((rd_T110 l0 (wrap64 (x - 1))).f4))) (ds := []) #[false, false, false, false, false, false, false, false, false, false, false, false, false, false, false, false, false] (by kernel_rfl) rfl rfl ⟨(blk_cell BK.out 0).trans rfl, (blk_cell BK.out 1).trans rfl, (blk_cell BK.out 2).trans rfl, (blk_cell BK.out 3).trans rfl, (blk_cell BK.out 4).trans rfl, ((HB.out.cell (World.block_lt_of_cell? w1 _ HX.out)).trans HX.out), ((HB.out.cell (World.block_lt_of_cell? w1 _ hw_0)).trans hw_0), ((HB.out.cell (World.block_lt_of_cell? w1 _ hw_1)).trans hw_1), ((HB.out.cell (World.block_lt_of_cell? w1 _ hw_2)).trans hw_2), ((HB.out.cell (World.block_lt_of_cell? w1 _ hw_3)).trans hw_3), ((HB.out.cell (World.block_lt_of_cell? w1 _ hw_4)).trans hw_4)⟩ (fun hHeld => ?_); refine with_tabW impl_LotsOk.tab4 impl_LotsOk.bits4 (fun HT_ HW_ => ?_)
              refine take_ (i := 0) (N := some 12) (v := ?_) (a' := ?_) #[true, false, false, false, false, false, false, false, false, false, false, false, false, false, false, false, false] rfl rfl (take_ofW HT_.out HW_.out (by kernel_rfl)) (fun _ _ _ h => h) (Or.inl ⟨by rfl, ?_⟩) hHeld ?_ ?_
              rotate_left
              · rintro w' ⟨s0, s1, s2, s3, s4, s5, s6, s7, s8, s9, s10⟩
                go_simp
                with_reducible rfl
              rotate_left
              · simp only [Act.put, List.setIfInBounds_toArray, List.set_cons_zero, List.set_cons_succ, i64_w, i32_w]
                rfl
              refine one_ (i := 1) (N := some 13) #[true, true, false, false, false, false, false, false, false, false, false, false, false, false, false, false, false] rfl rfl (one_of HT_.out (by kernel_rfl)) (by decide) (fun K hK => ?_)
              refine goes_ Tryz.func132 (by kernel_rfl) rfl #[.agg #[.int .i64 ((rd_T110 l0 x).f0), .int .i64 ((rd_T110 l0 x).f1), .int .i64 ((rd_T110 l0 x).f2), .int .i64 ((rd_T110 l0 x).f3), .int .i64 ((rd_T110 l0 x).f4)]] (by rfl) rfl rfl (by (try simp only [List.map_toArray, List.map_cons, List.map_nil]); first | done | rfl | (simp only [i64_w]; rfl)) ?_
              with_reducible refine (impl_lotForm.calls _ _ _ _ _ true _ HFm.out).mono ?_
              rintro e w7 ⟨rfl, hb⟩
              refine ⟨_, rfl, ?_⟩
              have n0_ := Aside0.mk (blk_below (g := gb) (o := .cells #[.int .i64 ((rd_T110 l0 x).f0), .int .i64 ((rd_T110 l0 x).f1), .int .i64 ((rd_T110 l0 x).f2), .int .i64 ((rd_T110 l0 x).f3), .int .i64 ((rd_T110 l0 x).f4)] 110 (0, 0)) (by (with_reducible repeat (first | refine blk_drewN ?_ _ | refine blk_drew ?_ | refine blk_alloc ?_ _)); exact BK.out) hb)
              have n1_ := Aside0.mk (below_step (by repeat (first | (with_reducible first | exact HB.out | apply below_alloc | apply pw_below_drewN | apply below_drew1 | refine below_set ?_ GE.out) | exact HB.out)) hb)
              clear BK
              clear HB
              have BK := n0_
              have HB := n1_
              clear n0_ n1_ hb
              refine hK.out _ _ ⟨(blk_cell BK.out 0).trans rfl, (blk_cell BK.out 1).trans rfl, (blk_cell BK.out 2).trans rfl, (blk_cell BK.out 3).trans rfl, (blk_cell BK.out 4).trans rfl, ((HB.out.cell (World.block_lt_of_cell? w1 _ HX.out)).trans HX.out), ((HB.out.cell (World.block_lt_of_cell? w1 _ hw_0)).trans hw_0), ((HB.out.cell (World.block_lt_of_cell? w1 _ hw_1)).trans hw_1), ((HB.out.cell (World.block_lt_of_cell? w1 _ hw_2)).trans hw_2), ((HB.out.cell (World.block_lt_of_cell? w1 _ hw_3)).trans hw_3), ((HB.out.cell (World.block_lt_of_cell? w1 _ hw_4)).trans hw_4)⟩ (fun hHeld => ?_)
              clear hK K
              refine norm_ (a' := ?_) ?_ ?_
              rotate_left
              · show Act.put _ (some 13) _ = _
                simp only [Act.put, List.setIfInBounds_toArray, List.set_cons_zero, List.set_cons_succ, i64_w, i32_w]
                rfl
              refine pure_ (i := 2) (N := some 14) (v := ?_) (a' := ?_) #[true, true, true, false, false, false, false, false, false, false, false, false, false, false, false, false, false] rfl rfl (any_of HT_.out (by kernel_rfl)) (fun _ _ _ h => h) (Or.inl ⟨by rfl, ?_⟩) ?_ ?_
              rotate_left
              · intro w'
                go_simp
                with_reducible rfl
              rotate_left
              · simp only [Act.put, List.setIfInBounds_toArray, List.set_cons_zero, List.set_cons_succ, i64_w, i32_w]
                rfl
              refine pure_ (i := 3) (N := some 15) (v := ?_) (a' := ?_) #[true, true, true, true, false, false, false, false, false, false, false, false, false, false, false, false, false] rfl rfl (any_of HT_.out (by kernel_rfl)) (fun _ _ _ h => h) (Or.inl ⟨by rfl, ?_⟩) ?_ ?_
              rotate_left
              · intro w'
                go_simp
                with_reducible rfl
              rotate_left
              · simp only [Act.put, List.setIfInBounds_toArray, List.set_cons_zero, List.set_cons_succ, i64_w, i32_w]
                rfl
              refine pure_ (i := 4) (N := some 16) (v := ?_) (a' := ?_) #[true, true, true, true, true, false, false, false, false, false, false, false, false, false, false, false, false] rfl rfl (any_of HT_.out (by kernel_rfl)) (fun _ _ _ h => h) (Or.inl ⟨by rfl, ?_⟩) ?_ ?_
              rotate_left
              · intro w'
                go_simp
                with_reducible rfl
              rotate_left
              · simp only [Act.put, List.setIfInBounds_toArray, List.set_cons_zero, List.set_cons_succ, i64_w, i32_w]
                rfl
              refine pure_ (i := 5) (N := some 17) (v := ?_) (a' := ?_) #[true, true, true, true, true, true, false, false, false, false, false, false, false, false, false, false, false] rfl rfl (any_of HT_.out (by kernel_rfl)) (fun _ _ _ h => h) (Or.inl ⟨by rfl, ?_⟩) ?_ ?_
              rotate_left
              · intro w'
                go_simp
                with_reducible rfl
              rotate_left
              · simp only [Act.put, List.setIfInBounds_toArray, List.set_cons_zero, List.set_cons_succ, i64_w, i32_w]
                rfl
              refine pure_ (i := 6) (N := some 18) (v := ?_) (a' := ?_) #[true, true, true, true, true, true, true, false, false, false, false, false, false, false, false, false, false] rfl rfl (any_of HT_.out (by kernel_rfl)) (fun _ _ _ h => h) (Or.inl ⟨by rfl, ?_⟩) ?_ ?_
              rotate_left
              · intro w'
                go_simp
                with_reducible rfl
              rotate_left
              · simp only [Act.put, List.setIfInBounds_toArray, List.set_cons_zero, List.set_cons_succ, i64_w, i32_w]
                rfl
              refine take_ (i := 7) (N := some 19) (v := ?_) (a' := ?_) #[true, true, true, true, true, true, true, true, false, false, false, false, false, false, false, false, false] rfl rfl (take_ofW HT_.out HW_.out (by kernel_rfl)) (fun _ _ _ h => h) (Or.inl ⟨by rfl, ?_⟩) hHeld ?_ ?_
              rotate_left
              · rintro w' ⟨s0, s1, s2, s3, s4, s5, s6, s7, s8, s9, s10⟩
                go_simp
                with_reducible rfl
              rotate_left
              · simp only [Act.put, List.setIfInBounds_toArray, List.set_cons_zero, List.set_cons_succ, i64_w, i32_w]
                rfl
              refine pure_ (i := 8) (N := some 20) (v := ?_) (a' := ?_) #[true, true, true, true, true, true, true, true, true, false, false, false, false, false, false, false, false] rfl rfl (any_of HT_.out (by kernel_rfl)) (fun _ _ _ h => h) (Or.inl ⟨by rfl, ?_⟩) ?_ ?_
              rotate_left
              · intro w'
                go_simp
                with_reducible rfl
              rotate_left
              · simp only [Act.put, List.setIfInBounds_toArray, List.set_cons_zero, List.set_cons_succ, i64_w, i32_w]
                rfl
              refine pure_ (i := 9) (N := some 21) (v := ?_) (a' := ?_) #[true, true, true, true, true, true, true, true, true, true, false, false, false, false, false, false, false] rfl rfl (any_of HT_.out (by kernel_rfl)) (fun _ _ _ h => h) (Or.inl ⟨by rfl, ?_⟩) ?_ ?_
              rotate_left
              · intro w'
                go_simp
                with_reducible rfl
              rotate_left
              · simp only [Act.put, List.setIfInBounds_toArray, List.set_cons_zero, List.set_cons_succ, i64_w, i32_w]
                rfl
              refine pure_ (i := 10) (N := some 22) (v := ?_) (a' := ?_) #[true, true, true, true, true, true, true, true, true, true, true, false, false, false, false, false, false] rfl rfl (any_of HT_.out (by kernel_rfl)) (fun _ _ _ h => h) (Or.inl ⟨by rfl, ?_⟩) ?_ ?_
              rotate_left
              · intro w'
                go_simp
                with_reducible rfl
              rotate_left
              · simp only [Act.put, List.setIfInBounds_toArray, List.set_cons_zero, List.set_cons_succ, i64_w, i32_w]
                rfl
              refine take_ (i := 11) (N := some 23) (v := ?_) (a' := ?_) #[true, true, true, true, true, true, true, true, true, true, true, true, false, false, false, false, false] rfl rfl (take_ofW HT_.out HW_.out (by kernel_rfl)) (fun _ _ _ h => h) (Or.inl ⟨by rfl, ?_⟩) hHeld ?_ ?_
              rotate_left
              · rintro w' ⟨s0, s1, s2, s3, s4, s5, s6, s7, s8, s9, s10⟩
                go_simp
                with_reducible rfl
              rotate_left
              · simp only [Act.put, List.setIfInBounds_toArray, List.set_cons_zero, List.set_cons_succ, i64_w, i32_w]
                rfl
              refine take_ (i := 12) (N := some 24) (v := ?_) (a' := ?_) #[true, true, true, true, true, true, true, true, true, true, true, true, true, false, false, false, false] rfl rfl (take_ofW HT_.out HW_.out (by kernel_rfl)) (fun _ _ _ h => h) (Or.inl ⟨by rfl, ?_⟩) hHeld ?_ ?_
              rotate_left
              · rintro w' ⟨s0, s1, s2, s3, s4, s5, s6, s7, s8, s9, s10⟩
                go_simp
                with_reducible rfl
              rotate_left
              · simp only [Act.put, List.setIfInBounds_toArray, List.set_cons_zero, List.set_cons_succ, i64_w, i32_w]
                rfl
              refine one_ (i := 13) (N := some 25) #[true, true, true, true, true, true, true, true, true, true, true, true, true, true, false, false, false] rfl rfl (one_of HT_.out (by kernel_rfl)) (by decide) (fun K hK => ?_)
              refine goes_ Tryz.func133 (by kernel_rfl) rfl #[.agg #[.int .i64 ((rd_T110 l0 (wrap64 (x - 1))).f0), .int .i64 ((rd_T110 l0 (wrap64 (x - 1))).f1), .int .i64 ((rd_T110 l0 (wrap64 (x - 1))).f2), .int .i64 ((rd_T110 l0 (wrap64 (x - 1))).f3), .int .i64 ((rd_T110 l0 (wrap64 (x - 1))).f4)], .agg #[.int .i64 ((rd_T110 l0 x).f0), .int .i64 ((rd_T110 l0 x).f1), .int .i64 ((rd_T110 l0 x).f2), .int .i64 ((rd_T110 l0 x).f3), .int .i64 ((rd_T110 l0 x).f4)]] (by rfl) rfl rfl (by (try simp only [List.map_toArray, List.map_cons, List.map_nil]); first | done | rfl | (simp only [i64_w]; rfl)) ?_
              with_reducible refine (impl_lotBefore.calls 1 _ _ _ _ _ _ _ _ _ _ cc _ HCm.out).mono ?_
              rintro e w8 ⟨rfl, hb⟩
              refine ⟨_, rfl, ?_⟩
              have n0_ := Aside0.mk (blk_below (g := gb) (o := .cells #[.int .i64 ((rd_T110 l0 x).f0), .int .i64 ((rd_T110 l0 x).f1), .int .i64 ((rd_T110 l0 x).f2), .int .i64 ((rd_T110 l0 x).f3), .int .i64 ((rd_T110 l0 x).f4)] 110 (0, 0)) (by (with_reducible repeat (first | refine blk_drewN ?_ _ | refine blk_drew ?_ | refine blk_alloc ?_ _)); exact BK.out) hb)
              have n1_ := Aside0.mk (below_step (by repeat (first | (with_reducible first | exact HB.out | apply below_alloc | apply pw_below_drewN | apply below_drew1 | refine below_set ?_ GE.out) | exact HB.out)) hb)
              clear BK
              clear HB
              have BK := n0_
              have HB := n1_
              clear n0_ n1_ hb
              refine hK.out _ _ ⟨(blk_cell BK.out 0).trans rfl, (blk_cell BK.out 1).trans rfl, (blk_cell BK.out 2).trans rfl, (blk_cell BK.out 3).trans rfl, (blk_cell BK.out 4).trans rfl, ((HB.out.cell (World.block_lt_of_cell? w1 _ HX.out)).trans HX.out), ((HB.out.cell (World.block_lt_of_cell? w1 _ hw_0)).trans hw_0), ((HB.out.cell (World.block_lt_of_cell? w1 _ hw_1)).trans hw_1), ((HB.out.cell (World.block_lt_of_cell? w1 _ hw_2)).trans hw_2), ((HB.out.cell (World.block_lt_of_cell? w1 _ hw_3)).trans hw_3), ((HB.out.cell (World.block_lt_of_cell? w1 _ hw_4)).trans hw_4)⟩ (fun hHeld => ?_)
              clear hK K
              refine norm_ (a' := ?_) ?_ ?_
              rotate_left
              · show Act.put _ (some 25) _ = _
                simp only [Act.put, List.setIfInBounds_toArray, List.set_cons_zero, List.set_cons_succ, i64_w, i32_w]
                rfl
              refine pure_ (i := 14) (N := some 26) (v := ?_) (a' := ?_) #[true, true, true, true, true, true, true, true, true, true, true, true, true, true, true, false, false] rfl rfl (any_of HT_.out (by kernel_rfl)) (fun _ _ _ h => h) (Or.inl ⟨by rfl, ?_⟩) ?_ ?_
              rotate_left
              · intro w'
                go_simp
                with_reducible rfl
              rotate_left
              · simp only [Act.put, List.setIfInBounds_toArray, List.set_cons_zero, List.set_cons_succ, i64_w, i32_w]
                rfl
              refine pure_ (i := 15) (N := some 27) (v := ?_) (a' := ?_) #[true, true, true, true, true, true, true, true, true, true, true, true, true, true, true, true, false] rfl rfl (any_of HT_.out (by kernel_rfl)) (fun _ _ _ h => h) (Or.inl ⟨by rfl, ?_⟩) ?_ ?_
              rotate_left
              · intro w'
                go_simp
                with_reducible rfl
              rotate_left
              · simp only [Act.put, List.setIfInBounds_toArray, List.set_cons_zero, List.set_cons_succ, i64_w, i32_w]
                rfl
              refine pure_ (i := 16) (N := some 28) (v := ?_) (a' := ?_) #[true, true, true, true, true, true, true, true, true, true, true, true, true, true, true, true, true] rfl rfl (any_of HT_.out (by kernel_rfl)) (fun _ _ _ h => h) (Or.inl ⟨by rfl, ?_⟩) ?_ ?_
              rotate_left
              · intro w'
                go_simp
                with_reducible rfl
              rotate_left
              · simp only [Act.put, List.setIfInBounds_toArray, List.set_cons_zero, List.set_cons_succ, i64_w, i32_w]
                rfl
              refine done_ (done_of HT_.out (by kernel_rfl)) ?_
              try go_wp2
              go_roundg (l0.length - (x + 1)).toNat
              case measure => have := HA.out; have := C3.out; omega
              case rel =>
                have h1 := HA.out
                have h2 := C3.out
                refine ⟨wrap64 (x + 1), (by first | rfl | (simp; done) | (simp [*]; done)), ⟨?_⟩, ⟨by repeat (first | (with_reducible first | exact HB.out | apply below_alloc | apply pw_below_drewN | apply below_drew1 | refine below_set ?_ GE.out) | exact HB.out)⟩⟩
                have hw : wrap64 (x + 1) = x + 1 := by
                  have := HL.out
                  unfold wrap64
                  omega
                rw [hw]
                exact ⟨by omega, by omega, rfl, NX.out⟩
          · have c10b0 : decide (0 < x) = false := decide_eq_false c10
            have NX : Aside0 (impl_LotsOk.chk l0 (l0.length - (x + 1)).toNat (x + 1).toNat = q0) := ⟨by
              have h1 := HSt.out
              rw [hfm, if_pos rfl, if_neg c10] at h1
              exact h1.symm.trans HKx.out⟩
            clear HSt hfm c10
            refine start_ (n := 17) (S := fun w' => w'.cell? ⟨gb, 0, none⟩ = some (.int .i64 ((rd_T110 l0 x).f0)) ∧ w'.cell? ⟨gb, 1, none⟩ = some (.int .i64 ((rd_T110 l0 x).f1)) ∧ w'.cell? ⟨gb, 2, none⟩ = some (.int .i64 ((rd_T110 l0 x).f2)) ∧ w'.cell? ⟨gb, 3, none⟩ = some (.int .i64 ((rd_T110 l0 x).f3)) ∧ w'.cell? ⟨gb, 4, none⟩ = some (.int .i64 ((rd_T110 l0 x).f4)) ∧ w'.cell? ⟨w.heap.size, 0, none⟩ = some (.slice (some ad) l0.length c0)) (ds := []) #[false, false, false, false, false, false, false, false, false, false, false, false, false, false, false, false, false] (by kernel_rfl) rfl rfl ⟨(blk_cell BK.out 0).trans rfl, (blk_cell BK.out 1).trans rfl, (blk_cell BK.out 2).trans rfl, (blk_cell BK.out 3).trans rfl, (blk_cell BK.out 4).trans rfl, ((HB.out.cell (World.block_lt_of_cell? w1 _ HX.out)).trans HX.out)⟩ (fun hHeld => ?_); refine with_tabW impl_LotsOk.tab4 impl_LotsOk.bits4 (fun HT_ HW_ => ?_)
            refine take_ (i := 0) (N := some 12) (v := ?_) (a' := ?_) #[true, false, false, false, false, false, false, false, false, false, false, false, false, false, false, false, false] rfl rfl (take_ofW HT_.out HW_.out (by kernel_rfl)) (fun _ _ _ h => h) (Or.inl ⟨by rfl, ?_⟩) hHeld ?_ ?_
            rotate_left
            · rintro w' ⟨s0, s1, s2, s3, s4, s5⟩
              go_simp
              with_reducible rfl
            rotate_left
            · simp only [Act.put, List.setIfInBounds_toArray, List.set_cons_zero, List.set_cons_succ, i64_w, i32_w]
              rfl
            refine one_ (i := 1) (N := some 13) #[true, true, false, false, false, false, false, false, false, false, false, false, false, false, false, false, false] rfl rfl (one_of HT_.out (by kernel_rfl)) (by decide) (fun K hK => ?_)
            refine goes_ Tryz.func132 (by kernel_rfl) rfl #[.agg #[.int .i64 ((rd_T110 l0 x).f0), .int .i64 ((rd_T110 l0 x).f1), .int .i64 ((rd_T110 l0 x).f2), .int .i64 ((rd_T110 l0 x).f3), .int .i64 ((rd_T110 l0 x).f4)]] (by rfl) rfl rfl (by (try simp only [List.map_toArray, List.map_cons, List.map_nil]); first | done | rfl | (simp only [i64_w]; rfl)) ?_
            with_reducible refine (impl_lotForm.calls _ _ _ _ _ true _ HFm.out).mono ?_
            rintro e w7 ⟨rfl, hb⟩
            refine ⟨_, rfl, ?_⟩
            have n0_ := Aside0.mk (blk_below (g := gb) (o := .cells #[.int .i64 ((rd_T110 l0 x).f0), .int .i64 ((rd_T110 l0 x).f1), .int .i64 ((rd_T110 l0 x).f2), .int .i64 ((rd_T110 l0 x).f3), .int .i64 ((rd_T110 l0 x).f4)] 110 (0, 0)) (by (with_reducible repeat (first | refine blk_drewN ?_ _ | refine blk_drew ?_ | refine blk_alloc ?_ _)); exact BK.out) hb)
            have n1_ := Aside0.mk (below_step (by repeat (first | (with_reducible first | exact HB.out | apply below_alloc | apply pw_below_drewN | apply below_drew1 | refine below_set ?_ GE.out) | exact HB.out)) hb)
            clear BK
            clear HB
            have BK := n0_
            have HB := n1_
            clear n0_ n1_ hb
            refine hK.out _ _ ⟨(blk_cell BK.out 0).trans rfl, (blk_cell BK.out 1).trans rfl, (blk_cell BK.out 2).trans rfl, (blk_cell BK.out 3).trans rfl, (blk_cell BK.out 4).trans rfl, ((HB.out.cell (World.block_lt_of_cell? w1 _ HX.out)).trans HX.out)⟩ (fun hHeld => ?_)
            clear hK K
            refine norm_ (a' := ?_) ?_ ?_
            rotate_left
            · show Act.put _ (some 13) _ = _
              simp only [Act.put, List.setIfInBounds_toArray, List.set_cons_zero, List.set_cons_succ, i64_w, i32_w]
              rfl
            refine pure_ (i := 2) (N := some 14) (v := ?_) (a' := ?_) #[true, true, true, false, false, false, false, false, false, false, false, false, false, false, false, false, false] rfl rfl (any_of HT_.out (by kernel_rfl)) (fun _ _ _ h => h) (Or.inl ⟨by rfl, ?_⟩) ?_ ?_
            rotate_left
            · intro w'
              go_simp
              with_reducible rfl
            rotate_left
            · simp only [Act.put, List.setIfInBounds_toArray, List.set_cons_zero, List.set_cons_succ, i64_w, i32_w]
              rfl
            refine pure_ (i := 3) (N := some 15) (v := ?_) (a' := ?_) #[true, true, true, true, false, false, false, false, false, false, false, false, false, false, false, false, false] rfl rfl (any_of HT_.out (by kernel_rfl)) (fun _ _ _ h => h) (Or.inl ⟨by rfl, ?_⟩) ?_ ?_
            rotate_left
            · intro w'
              go_simp
              with_reducible rfl
            rotate_left
            · simp only [Act.put, List.setIfInBounds_toArray, List.set_cons_zero, List.set_cons_succ, i64_w, i32_w]
              rfl
            refine pure_ (i := 4) (N := some 16) (v := ?_) (a' := ?_) #[true, true, true, true, true, false, false, false, false, false, false, false, false, false, false, false, false] rfl rfl (any_of HT_.out (by kernel_rfl)) (fun _ _ _ h => h) (Or.inl ⟨by rfl, ?_⟩) ?_ ?_
            rotate_left
            · intro w'
              go_simp
              with_reducible rfl
            rotate_left
            · simp only [Act.put, List.setIfInBounds_toArray, List.set_cons_zero, List.set_cons_succ, i64_w, i32_w]
              rfl
            refine pure_ (i := 5) (N := some 17) (v := ?_) (a' := ?_) #[true, true, true, true, true, true, false, false, false, false, false, false, false, false, false, false, false] rfl rfl (any_of HT_.out (by kernel_rfl)) (fun _ _ _ h => h) (Or.inl ⟨by rfl, ?_⟩) ?_ ?_
            rotate_left
            · intro w'
              go_simp
              with_reducible rfl
            rotate_left
            · simp only [Act.put, List.setIfInBounds_toArray, List.set_cons_zero, List.set_cons_succ, i64_w, i32_w]
              rfl
            refine pure_ (i := 6) (N := some 18) (v := ?_) (a' := ?_) #[true, true, true, true, true, true, true, false, false, false, false, false, false, false, false, false, false] rfl rfl (any_of HT_.out (by kernel_rfl)) (fun _ _ _ h => h) (Or.inl ⟨by rfl, ?_⟩) ?_ ?_
            rotate_left
            · intro w'
              go_simp
              with_reducible rfl
            rotate_left
            · simp only [Act.put, List.setIfInBounds_toArray, List.set_cons_zero, List.set_cons_succ, i64_w, i32_w]
              rfl
            refine pure_ (i := 7) (N := some 19) (v := undef) (a' := ?_) #[true, true, true, true, true, true, true, true, false, false, false, false, false, false, false, false, false] rfl rfl (any_of HT_.out (by kernel_rfl)) (fun _ _ _ h => h) (Or.inr ⟨by rfl, rfl⟩) ?_ ?_
            rotate_left
            · simp only [Act.put, List.setIfInBounds_toArray, List.set_cons_zero, List.set_cons_succ, i64_w, i32_w]
              rfl
            refine pure_ (i := 8) (N := some 20) (v := undef) (a' := ?_) #[true, true, true, true, true, true, true, true, true, false, false, false, false, false, false, false, false] rfl rfl (any_of HT_.out (by kernel_rfl)) (fun _ _ _ h => h) (Or.inr ⟨by rfl, rfl⟩) ?_ ?_
            rotate_left
            · simp only [Act.put, List.setIfInBounds_toArray, List.set_cons_zero, List.set_cons_succ, i64_w, i32_w]
              rfl
            refine pure_ (i := 9) (N := some 21) (v := undef) (a' := ?_) #[true, true, true, true, true, true, true, true, true, true, false, false, false, false, false, false, false] rfl rfl (any_of HT_.out (by kernel_rfl)) (fun _ _ _ h => h) (Or.inr ⟨by rfl, rfl⟩) ?_ ?_
            rotate_left
            · simp only [Act.put, List.setIfInBounds_toArray, List.set_cons_zero, List.set_cons_succ, i64_w, i32_w]
              rfl
            refine pure_ (i := 10) (N := some 22) (v := undef) (a' := ?_) #[true, true, true, true, true, true, true, true, true, true, true, false, false, false, false, false, false] rfl rfl (any_of HT_.out (by kernel_rfl)) (fun _ _ _ h => h) (Or.inr ⟨by rfl, rfl⟩) ?_ ?_
            rotate_left
            · simp only [Act.put, List.setIfInBounds_toArray, List.set_cons_zero, List.set_cons_succ, i64_w, i32_w]
              rfl
            refine pure_ (i := 11) (N := some 23) (v := undef) (a' := ?_) #[true, true, true, true, true, true, true, true, true, true, true, true, false, false, false, false, false] rfl rfl (any_of HT_.out (by kernel_rfl)) (fun _ _ _ h => h) (Or.inr ⟨by rfl, rfl⟩) ?_ ?_
            rotate_left
            · simp only [Act.put, List.setIfInBounds_toArray, List.set_cons_zero, List.set_cons_succ, i64_w, i32_w]
              rfl
            refine pure_ (i := 12) (N := some 24) (v := undef) (a' := ?_) #[true, true, true, true, true, true, true, true, true, true, true, true, true, false, false, false, false] rfl rfl (any_of HT_.out (by kernel_rfl)) (fun _ _ _ h => h) (Or.inr ⟨by rfl, rfl⟩) ?_ ?_
            rotate_left
            · simp only [Act.put, List.setIfInBounds_toArray, List.set_cons_zero, List.set_cons_succ, i64_w, i32_w]
              rfl
            refine pure_ (i := 13) (N := some 25) (v := undef) (a' := ?_) #[true, true, true, true, true, true, true, true, true, true, true, true, true, true, false, false, false] rfl rfl (any_of HT_.out (by kernel_rfl)) (fun _ _ _ h => h) (Or.inr ⟨by rfl, rfl⟩) ?_ ?_
            rotate_left
            · simp only [Act.put, List.setIfInBounds_toArray, List.set_cons_zero, List.set_cons_succ, i64_w, i32_w]
              rfl
            refine pure_ (i := 14) (N := some 26) (v := undef) (a' := ?_) #[true, true, true, true, true, true, true, true, true, true, true, true, true, true, true, false, false] rfl rfl (any_of HT_.out (by kernel_rfl)) (fun _ _ _ h => h) (Or.inr ⟨by rfl, rfl⟩) ?_ ?_
            rotate_left
            · simp only [Act.put, List.setIfInBounds_toArray, List.set_cons_zero, List.set_cons_succ, i64_w, i32_w]
              rfl
            refine pure_ (i := 15) (N := some 27) (v := ?_) (a' := ?_) #[true, true, true, true, true, true, true, true, true, true, true, true, true, true, true, true, false] rfl rfl (any_of HT_.out (by kernel_rfl)) (fun _ _ _ h => h) (Or.inl ⟨by rfl, ?_⟩) ?_ ?_
            rotate_left
            · intro w'
              go_simp
              with_reducible rfl
            rotate_left
            · simp only [Act.put, List.setIfInBounds_toArray, List.set_cons_zero, List.set_cons_succ, i64_w, i32_w]
              rfl
            refine pure_ (i := 16) (N := some 28) (v := ?_) (a' := ?_) #[true, true, true, true, true, true, true, true, true, true, true, true, true, true, true, true, true] rfl rfl (any_of HT_.out (by kernel_rfl)) (fun _ _ _ h => h) (Or.inl ⟨by rfl, ?_⟩) ?_ ?_
            rotate_left
            · intro w'
              go_simp
              with_reducible rfl
            rotate_left
            · simp only [Act.put, List.setIfInBounds_toArray, List.set_cons_zero, List.set_cons_succ, i64_w, i32_w]
              rfl
            refine done_ (done_of HT_.out (by kernel_rfl)) ?_
            try go_wp2
            go_roundg (l0.length - (x + 1)).toNat
            case measure => have := HA.out; have := C3.out; omega
            case rel =>
              have h1 := HA.out
              have h2 := C3.out
              refine ⟨wrap64 (x + 1), (by first | rfl | (simp; done) | (simp [*]; done)), ⟨?_⟩, ⟨by repeat (first | (with_reducible first | exact HB.out | apply below_alloc | apply pw_below_drewN | apply below_drew1 | refine below_set ?_ GE.out) | exact HB.out)⟩⟩
              have hw : wrap64 (x + 1) = x + 1 := by
                have := HL.out
                unfold wrap64
                omega
              rw [hw]
              exact ⟨by omega, by omega, rfl, NX.out⟩
      · have c3b0 : decide (x < (l0.length : Int)) = false := decide_eq_false c3
        have hq : q0 = true := by
          have h1 := HA.out
          have e1 : (l0.length - x).toNat = 0 := by omega
          have h2 := h1.2.2.2
          rw [e1] at h2
          exact h2.symm
        have HQ2 : Aside0 (r = if (l0.length : Int) > 120 then false else !(l0.any (impl_LotsOk.over l0))) := ⟨by
          have h1 := HQ.out
          rw [hq, if_pos rfl] at h1
          exact h1⟩
        clear HQ hq c3
        have hcb := (HB.out.cell (World.block_lt_of_cell? w1 _ HX.out)).trans HX.out
        by_cases c4 : (l0.length : Int) > 120
        · have c4b0 : decide (120 < (l0.length : Int)) = true := decide_eq_true c4
          have c4b1 : decide (120 < l0.length) = true := decide_eq_true (by omega)
          obtain rfl : r = false := by
            have h1 := HQ2.out
            rw [if_pos c4] at h1
            exact h1
          clear c4 HQ2
          go_wp2
          go_ret
          exact ⟨by first | rfl | (simp; done) | (simp [*]; done), below_step HW.out (by repeat (first | (with_reducible first | exact HB.out | apply below_alloc | apply pw_below_drewN | apply below_drew1) | exact HB.out))⟩
        · have c4b0 : decide (120 < (l0.length : Int)) = false := decide_eq_false c4
          have c4b1 : decide (120 < l0.length) = false := decide_eq_false (by omega)
          obtain rfl : r = !(l0.any (impl_LotsOk.over l0)) := by
            have h1 := HQ2.out
            rw [if_neg c4] at h1
            exact h1
          clear c4 HQ2
          go_wp2_with (first | (go_at_call 134; refine (ContainsFunc_st110.calls A0 c0 l0 135 #[.pointer (some ⟨w.heap.size, 0, none⟩)] (impl_LotsOk.over l0) _ (Kd.C_below HR1.out HB.out) HC0.out (impl_LotsOk.pred ((HB.out.cell (World.block_lt_of_cell? w1 _ HX.out)).trans HX.out) (Kd.C_below HR1.out HB.out) HC0.out HL.out)).mono ?_; rintro e w9 ⟨rfl, hb⟩; have n0_ := Aside0.mk (below_step HB.out hb); clear HB; have HB := n0_; clear n0_ hb))
          go_ret
          exact ⟨by first | rfl | (simp; done) | (simp [*]; done), below_step HW.out (by repeat (first | (with_reducible first | exact HB.out | apply below_alloc | apply pw_below_drewN | apply below_drew1) | exact HB.out))⟩
  · rw [if_neg hl] at h
    cases h
theorem IndexFunc_st60.calls (A0 : Option Addr) (c0 : Nat) (l0 : List (S60)) (fc : FuncId) (caps : Array Value) (p : S60 → Bool) (w : World) (hr0 : Kd.C k60 w A0 l0.length l0) (hc0 : l0.length ≤ c0) (hp : X0.FnB Tryz.prog fc caps w (fun x => .agg #[.int .i64 x.f0, .int .i64 x.f1, .int .i64 x.f2, .int .i64 x.f3, .int .i64 x.f4, .int .i64 x.f5, .int .i64 x.f6, .int .i64 x.f7]) p) :
    Calls Tryz.prog 142 #[.slice A0 l0.length c0, .func (.func fc) #[] caps] w fun e w' => e = .returned (.int .i64 (X0.idx p l0)) ∧ Below w.heap.size w w' := by
  obtain ⟨fn, hf, hn, hb, hcall⟩ := hp
  have HR0 := Aside0.mk hr0
  have HC0 := Aside0.mk hc0
  have HF := Aside0.mk hf
  have HN := Aside0.mk hn
  have HBo := Aside0.mk hb
  have HP := Aside0.mk hcall
  have HM := Aside0.mk (Kd.C_max hr0)
  clear hr0 hc0 hf hn hb hcall
  have HB := Aside0.mk (Below.refl w.heap.size w)
  have hu60 := Tryz.underlying60
  go_enter Tryz.func142, Tryz.ntmps142
  go_wp2
  go_loopg [8] l0.length (fun kq v8 w' => ∃ (x : Int), v8 = .int .i64 x ∧ Aside0 (0 ≤ x ∧ x ≤ l0.length ∧ kq = (l0.length - x).toNat ∧ ∀ j : Nat, j < x.toNat → p (l0.getD j z60) = false) ∧ Aside0 (Below w.heap.size w w'))
  case atStart => exact ⟨0, rfl, ⟨Int.le_refl _, by omega, by omega, fun j hj => by omega⟩, ⟨HB.out⟩⟩
  case round =>
    obtain ⟨x, rfl, HA, HB⟩ := hrel
    by_cases c2 : x < (l0.length : Int)
    · have p1 : 0 ≤ x := HA.out.1
      obtain ⟨ad, e, hx_0, hx_1, hx_2, hx_3, hx_4, hx_5, hx_6, hx_7⟩ := at_T60 HR0.out x p1 c2
      cases e
      replace hx_0 := (HB.out.cell (World.block_lt_of_cell? w _ hx_0)).trans hx_0
      replace hx_1 := (HB.out.cell (World.block_lt_of_cell? w _ hx_1)).trans hx_1
      replace hx_2 := (HB.out.cell (World.block_lt_of_cell? w _ hx_2)).trans hx_2
      replace hx_3 := (HB.out.cell (World.block_lt_of_cell? w _ hx_3)).trans hx_3
      replace hx_4 := (HB.out.cell (World.block_lt_of_cell? w _ hx_4)).trans hx_4
      replace hx_5 := (HB.out.cell (World.block_lt_of_cell? w _ hx_5)).trans hx_5
      replace hx_6 := (HB.out.cell (World.block_lt_of_cell? w _ hx_6)).trans hx_6
      replace hx_7 := (HB.out.cell (World.block_lt_of_cell? w _ hx_7)).trans hx_7
      have c2b0 : decide (x < (l0.length : Int)) = true := decide_eq_true c2
      have C2 := Aside0.mk c2
      replace p1 := eq_true p1
      have q1 := eq_true c2
      clear c2
      cases hpx : p (rd_T60 l0 x) with
      | true =>
        have HX := Aside0.mk hpx
        clear hpx
        go_wp2_with (first | ((with_reducible refine gate_dst (N := 16) rfl ?_); refine X0.goesV_ (some 16) rfl rfl caps HF.out HN.out HBo.out #[.agg #[.int .i64 (rd_T60 l0 x).f0, .int .i64 (rd_T60 l0 x).f1, .int .i64 (rd_T60 l0 x).f2, .int .i64 (rd_T60 l0 x).f3, .int .i64 (rd_T60 l0 x).f4, .int .i64 (rd_T60 l0 x).f5, .int .i64 (rd_T60 l0 x).f6, .int .i64 (rd_T60 l0 x).f7]] rfl rfl (by (try simp only [List.map_toArray, List.map_cons, List.map_nil]); first | done | rfl) ?_; refine (HP.out (rd_T60 l0 x) _ HB.out).mono ?_; rintro e w6 ⟨rfl, hb6⟩; refine ⟨_, rfl, ?_⟩; rw [HX.out]; have n0_ := Aside0.mk (below_step HB.out hb6); clear HB; have HB := n0_; clear n0_ hb6))
        go_ret
        exact ⟨by
          have := HA.out
          have h2 := C2.out
          have e1 : rd_T60 l0 x = l0.getD x.toNat z60 := rfl
          have h3 := HX.out
          rw [e1] at h3
          rw [X0.idx_found p z60 l0 x.toNat (by omega) this.2.2.2 h3, Int.toNat_of_nonneg this.1]
          rfl, HB.out⟩
      | false =>
        have HX := Aside0.mk hpx
        clear hpx
        go_wp2_with (first | ((with_reducible refine gate_dst (N := 16) rfl ?_); refine X0.goesV_ (some 16) rfl rfl caps HF.out HN.out HBo.out #[.agg #[.int .i64 (rd_T60 l0 x).f0, .int .i64 (rd_T60 l0 x).f1, .int .i64 (rd_T60 l0 x).f2, .int .i64 (rd_T60 l0 x).f3, .int .i64 (rd_T60 l0 x).f4, .int .i64 (rd_T60 l0 x).f5, .int .i64 (rd_T60 l0 x).f6, .int .i64 (rd_T60 l0 x).f7]] rfl rfl (by (try simp only [List.map_toArray, List.map_cons, List.map_nil]); first | done | rfl) ?_; refine (HP.out (rd_T60 l0 x) _ HB.out).mono ?_; rintro e w6 ⟨rfl, hb6⟩; refine ⟨_, rfl, ?_⟩; rw [HX.out]; have n0_ := Aside0.mk (below_step HB.out hb6); clear HB; have HB := n0_; clear n0_ hb6))
        go_roundg (l0.length - (x + 1)).toNat
        case measure => have := HA.out; have := C2.out; omega
        case rel =>
          have h1 := HA.out
          have h2 := C2.out
          have h4 := HM.out
          refine ⟨wrap64 (x + 1), (by first | rfl | (simp; done) | (simp [*]; done)), ⟨?_⟩, ⟨HB.out⟩⟩
          have hw : wrap64 (x + 1) = x + 1 := by unfold wrap64; omega
          rw [hw]
          refine ⟨by omega, by omega, rfl, fun j hj => ?_⟩
          by_cases hj2 : j < x.toNat
          · exact h1.2.2.2 j hj2
          · obtain rfl : j = x.toNat := by omega
            exact HX.out
    · have c2b0 : decide (x < (l0.length : Int)) = false := decide_eq_false c2
      have C2 := Aside0.mk c2
      clear c2
      go_wp2
      go_ret
      exact ⟨by
        have := HA.out
        have h2 := C2.out
        rw [X0.idx_none p z60 l0 fun j hj => this.2.2.2 j (by omega)]
        rfl, HB.out⟩
theorem ContainsFunc_st60.calls (A0 : Option Addr) (c0 : Nat) (l0 : List (S60)) (fc : FuncId) (caps : Array Value) (p : S60 → Bool) (w : World) (hr0 : Kd.C k60 w A0 l0.length l0) (hc0 : l0.length ≤ c0) (hp : X0.FnB Tryz.prog fc caps w (fun x => .agg #[.int .i64 x.f0, .int .i64 x.f1, .int .i64 x.f2, .int .i64 x.f3, .int .i64 x.f4, .int .i64 x.f5, .int .i64 x.f6, .int .i64 x.f7]) p) :
    Calls Tryz.prog 140 #[.slice A0 l0.length c0, .func (.func fc) #[] caps] w fun e w' => e = .returned (.bool (l0.any p)) ∧ Below w.heap.size w w' := by
  have HI := Aside0.mk (IndexFunc_st60.calls A0 c0 l0 fc caps p w hr0 hc0 hp)
  clear hr0 hc0 hp
  go_enter Tryz.func140, Tryz.ntmps140
  go_wp2_with (first | (go_at_call 142; refine HI.out.mono ?_; rintro e w6 ⟨rfl, hb6⟩; have HB := Aside0.mk hb6; clear hb6))
  go_ret
  exact ⟨by
      rw [← X0.idx_any p l0]
      rfl, HB.out⟩
theorem impl_tradesRight.ak_go (l : List (S80)) (a : Int) (hl : l.length < 1048577) : ∀ (n i : Nat), l.length - i = n → i ≤ l.length → impl_accountKind.l0 (n + 1) a l (l.length : Int) (i : Int) = some (impl_tradesRight.ak (l.drop i) a)
  | 0, i, hn, hi => by
    obtain rfl : i = l.length := by omega
    rw [impl_accountKind.l0, if_neg (by omega), List.drop_length]
    rfl
  | n + 1, i, hn, hi => by
    have h1 : i < l.length := by omega
    have hw : wrap64 ((i : Int) + 1) = ((i + 1 : Nat) : Int) := by
      unfold wrap64
      omega
    have e : rd_T80 l (i : Int) = l[i] := by
      unfold rd_T80
      rw [Int.toNat_natCast, List.getD_eq_getElem?_getD, List.getElem?_eq_getElem h1]
      rfl
    rw [impl_accountKind.l0, if_pos (by omega), if_pos (by omega), if_pos (by omega), hw, impl_tradesRight.ak_go l a hl n (i + 1) (by omega) (by omega), List.drop_eq_getElem_cons h1, e, impl_tradesRight.ak]
    by_cases h : l[i].f0 = a
    · rw [if_pos h, if_pos h]
    · rw [if_neg h, if_neg h]
theorem impl_tradesRight.ak_ (l : List (S80)) (a : Int) (hl : l.length < 1048577) : impl_accountKind.f (l.length + 1) l a = some (impl_tradesRight.ak l a) := impl_tradesRight.ak_go l a hl l.length 0 (by omega) (by omega)
theorem impl_tradesRight.ik_go (l : List (S84)) (a : Int) (hl : l.length < 1048577) : ∀ (n i : Nat), l.length - i = n → i ≤ l.length → impl_instrKind.l0 (n + 1) a l (l.length : Int) (i : Int) = some (impl_tradesRight.ik (l.drop i) a)
  | 0, i, hn, hi => by
    obtain rfl : i = l.length := by omega
    rw [impl_instrKind.l0, if_neg (by omega), List.drop_length]
    rfl
  | n + 1, i, hn, hi => by
    have h1 : i < l.length := by omega
    have hw : wrap64 ((i : Int) + 1) = ((i + 1 : Nat) : Int) := by
      unfold wrap64
      omega
    have e : rd_T84 l (i : Int) = l[i] := by
      unfold rd_T84
      rw [Int.toNat_natCast, List.getD_eq_getElem?_getD, List.getElem?_eq_getElem h1]
      rfl
    rw [impl_instrKind.l0, if_pos (by omega), if_pos (by omega), if_pos (by omega), hw, impl_tradesRight.ik_go l a hl n (i + 1) (by omega) (by omega), List.drop_eq_getElem_cons h1, e, impl_tradesRight.ik]
    by_cases h : l[i].f0 = a
    · rw [if_pos h, if_pos h]
    · rw [if_neg h, if_neg h]
theorem impl_tradesRight.ik_ (l : List (S84)) (a : Int) (hl : l.length < 1048577) : impl_instrKind.f (l.length + 1) l a = some (impl_tradesRight.ik l a) := impl_tradesRight.ik_go l a hl l.length 0 (by omega) (by omega)
theorem impl_tradesRight.clo (B : Nat) (A0 : Option Addr) (c0 : Nat) (l0 : List (S80)) (A1 : Option Addr) (c1 : Nat) (l1 : List (S84)) (x : S60) (W : World) (h0 : W.cell? ⟨B, 0, none⟩ = some (.slice A0 l0.length c0)) (h1 : W.cell? ⟨B, 1, none⟩ = some (.slice A1 l1.length c1)) (hC0 : Kd.C k80 W A0 l0.length l0) (hC1 : Kd.C k84 W A1 l1.length l1) (hc0 : l0.length ≤ c0) (hc1 : l1.length ≤ c1) (hl0 : l0.length < 1048577) (hl1 : l1.length < 1048577) :
    Calls Tryz.prog 141 #[.agg #[.int .i64 x.f0, .int .i64 x.f1, .int .i64 x.f2, .int .i64 x.f3, .int .i64 x.f4, .int .i64 x.f5, .int .i64 x.f6, .int .i64 x.f7], .pointer (some ⟨B, 0, none⟩)] W fun e W' => e = .returned (.bool (impl_tradesRight.bad l0 l1 x)) ∧ Below W.heap.size W W' := by
  have HB := Aside0.mk (Below.refl W.heap.size W)
  have G0 := Aside0.mk h0
  have G1 := Aside0.mk h1
  have HO : Aside0 (impl_tradesRight.bad l0 l1 x = ((impl_tradesRight.ak l0 x.f1 != 1) || (impl_tradesRight.ak l0 x.f2 != 1) || (impl_tradesRight.ik l1 x.f3 != 2) || (impl_tradesRight.ik l1 x.f5 != 1))) := ⟨rfl⟩
  have HK1 := Aside0.mk (show ∀ W2, Below W.heap.size W W2 → Calls Tryz.prog 108 #[.slice A0 l0.length c0, .int .i64 x.f1] W2 fun e W' => e = .returned (.int .i64 (impl_tradesRight.ak l0 x.f1)) ∧ Below W2.heap.size W2 W' from fun W2 hW2 => impl_accountKind.calls _ A0 c0 l0 x.f1 _ W2 (Kd.C_below hC0 hW2) hc0 (impl_tradesRight.ak_ l0 x.f1 hl0))
  have HK2 := Aside0.mk (show ∀ W2, Below W.heap.size W W2 → Calls Tryz.prog 108 #[.slice A0 l0.length c0, .int .i64 x.f2] W2 fun e W' => e = .returned (.int .i64 (impl_tradesRight.ak l0 x.f2)) ∧ Below W2.heap.size W2 W' from fun W2 hW2 => impl_accountKind.calls _ A0 c0 l0 x.f2 _ W2 (Kd.C_below hC0 hW2) hc0 (impl_tradesRight.ak_ l0 x.f2 hl0))
  have HK3 := Aside0.mk (show ∀ W2, Below W.heap.size W W2 → Calls Tryz.prog 110 #[.slice A1 l1.length c1, .int .i64 x.f3] W2 fun e W' => e = .returned (.int .i64 (impl_tradesRight.ik l1 x.f3)) ∧ Below W2.heap.size W2 W' from fun W2 hW2 => impl_instrKind.calls _ A1 c1 l1 x.f3 _ W2 (Kd.C_below hC1 hW2) hc1 (impl_tradesRight.ik_ l1 x.f3 hl1))
  have HK4 := Aside0.mk (show ∀ W2, Below W.heap.size W W2 → Calls Tryz.prog 110 #[.slice A1 l1.length c1, .int .i64 x.f5] W2 fun e W' => e = .returned (.int .i64 (impl_tradesRight.ik l1 x.f5)) ∧ Below W2.heap.size W2 W' from fun W2 hW2 => impl_instrKind.calls _ A1 c1 l1 x.f5 _ W2 (Kd.C_below hC1 hW2) hc1 (impl_tradesRight.ik_ l1 x.f5 hl1))
  generalize impl_tradesRight.bad l0 l1 x = o at HO ⊢
  generalize impl_tradesRight.ak l0 x.f1 = k1 at HO HK1
  generalize impl_tradesRight.ak l0 x.f2 = k2 at HO HK2
  generalize impl_tradesRight.ik l1 x.f3 = k3 at HO HK3
  generalize impl_tradesRight.ik l1 x.f5 = k4 at HO HK4
  clear h0 h1 hC0 hC1 hc0 hc1 hl0 hl1
  cases e1 : (k1 != 1) with
  | true =>
    obtain rfl : o = true := by rw [HO.out]; simp [e1]
    clear HO
    go_enter Tryz.func141, Tryz.ntmps141
    go_wp2_with (first | ((with_reducible refine gate_dst (N := 2) rfl ?_); refine box_event ?hg (N := 2) ?hd (cs := #[.int .i64 x.f0, .int .i64 x.f1, .int .i64 x.f2, .int .i64 x.f3, .int .i64 x.f4, .int .i64 x.f5, .int .i64 x.f6, .int .i64 x.f7]) (t := 60) ?hr ?_; (case hd => rfl); (case hg => rfl); (case hr => first | (go_simp; done) | (go_simp; rfl)); intro gb hg w5 hbox hb; have n0_ := Aside0.mk (below_step HB.out hb); clear HB; have HB := n0_; have BK := Aside0.mk hbox; clear n0_ hb hbox hg; have hc1_w5 : w5.cell? ⟨gb, 1, none⟩ = some (.int .i64 x.f1) := (blk_cell BK.out 1).trans rfl; have hc2_w5 : w5.cell? ⟨gb, 2, none⟩ = some (.int .i64 x.f2) := (blk_cell BK.out 2).trans rfl; have hc3_w5 : w5.cell? ⟨gb, 3, none⟩ = some (.int .i64 x.f3) := (blk_cell BK.out 3).trans rfl; have hc5_w5 : w5.cell? ⟨gb, 5, none⟩ = some (.int .i64 x.f5) := (blk_cell BK.out 5).trans rfl; have g0_w5 := (HB.out.cell (World.block_lt_of_cell? W _ G0.out)).trans G0.out; have g1_w5 := (HB.out.cell (World.block_lt_of_cell? W _ G1.out)).trans G1.out) | (go_at_call 108; (with_reducible refine (HK1.out _ HB.out).mono ?_); rintro e w6 ⟨rfl, hb⟩; have n0_ := Aside0.mk (below_step HB.out hb); have n1_ := Aside0.mk (blk_below BK.out hb); clear HB BK; have HB := n0_; have BK := n1_; clear n0_ n1_ hb; have hc1_w6 : w6.cell? ⟨gb, 1, none⟩ = some (.int .i64 x.f1) := (blk_cell BK.out 1).trans rfl; have hc2_w6 : w6.cell? ⟨gb, 2, none⟩ = some (.int .i64 x.f2) := (blk_cell BK.out 2).trans rfl; have hc3_w6 : w6.cell? ⟨gb, 3, none⟩ = some (.int .i64 x.f3) := (blk_cell BK.out 3).trans rfl; have hc5_w6 : w6.cell? ⟨gb, 5, none⟩ = some (.int .i64 x.f5) := (blk_cell BK.out 5).trans rfl; have g0_w6 := (HB.out.cell (World.block_lt_of_cell? W _ G0.out)).trans G0.out; have g1_w6 := (HB.out.cell (World.block_lt_of_cell? W _ G1.out)).trans G1.out))
    go_ret
    exact ⟨by first | rfl | (simp; done) | (simp [*]; done), HB.out⟩
  | false =>
    cases e2 : (k2 != 1) with
    | true =>
      obtain rfl : o = true := by rw [HO.out]; simp [e1, e2]
      clear HO
      go_enter Tryz.func141, Tryz.ntmps141
      go_wp2_with (first | ((with_reducible refine gate_dst (N := 2) rfl ?_); refine box_event ?hg (N := 2) ?hd (cs := #[.int .i64 x.f0, .int .i64 x.f1, .int .i64 x.f2, .int .i64 x.f3, .int .i64 x.f4, .int .i64 x.f5, .int .i64 x.f6, .int .i64 x.f7]) (t := 60) ?hr ?_; (case hd => rfl); (case hg => rfl); (case hr => first | (go_simp; done) | (go_simp; rfl)); intro gb hg w5 hbox hb; have n0_ := Aside0.mk (below_step HB.out hb); clear HB; have HB := n0_; have BK := Aside0.mk hbox; clear n0_ hb hbox hg; have hc1_w5 : w5.cell? ⟨gb, 1, none⟩ = some (.int .i64 x.f1) := (blk_cell BK.out 1).trans rfl; have hc2_w5 : w5.cell? ⟨gb, 2, none⟩ = some (.int .i64 x.f2) := (blk_cell BK.out 2).trans rfl; have hc3_w5 : w5.cell? ⟨gb, 3, none⟩ = some (.int .i64 x.f3) := (blk_cell BK.out 3).trans rfl; have hc5_w5 : w5.cell? ⟨gb, 5, none⟩ = some (.int .i64 x.f5) := (blk_cell BK.out 5).trans rfl; have g0_w5 := (HB.out.cell (World.block_lt_of_cell? W _ G0.out)).trans G0.out; have g1_w5 := (HB.out.cell (World.block_lt_of_cell? W _ G1.out)).trans G1.out) | (go_at_call 108; (with_reducible refine (HK1.out _ HB.out).mono ?_); rintro e w6 ⟨rfl, hb⟩; have n0_ := Aside0.mk (below_step HB.out hb); have n1_ := Aside0.mk (blk_below BK.out hb); clear HB BK; have HB := n0_; have BK := n1_; clear n0_ n1_ hb; have hc1_w6 : w6.cell? ⟨gb, 1, none⟩ = some (.int .i64 x.f1) := (blk_cell BK.out 1).trans rfl; have hc2_w6 : w6.cell? ⟨gb, 2, none⟩ = some (.int .i64 x.f2) := (blk_cell BK.out 2).trans rfl; have hc3_w6 : w6.cell? ⟨gb, 3, none⟩ = some (.int .i64 x.f3) := (blk_cell BK.out 3).trans rfl; have hc5_w6 : w6.cell? ⟨gb, 5, none⟩ = some (.int .i64 x.f5) := (blk_cell BK.out 5).trans rfl; have g0_w6 := (HB.out.cell (World.block_lt_of_cell? W _ G0.out)).trans G0.out; have g1_w6 := (HB.out.cell (World.block_lt_of_cell? W _ G1.out)).trans G1.out) | (go_at_call 108; (with_reducible refine (HK2.out _ HB.out).mono ?_); rintro e w7 ⟨rfl, hb⟩; have n0_ := Aside0.mk (below_step HB.out hb); have n1_ := Aside0.mk (blk_below BK.out hb); clear HB BK; have HB := n0_; have BK := n1_; clear n0_ n1_ hb; have hc1_w7 : w7.cell? ⟨gb, 1, none⟩ = some (.int .i64 x.f1) := (blk_cell BK.out 1).trans rfl; have hc2_w7 : w7.cell? ⟨gb, 2, none⟩ = some (.int .i64 x.f2) := (blk_cell BK.out 2).trans rfl; have hc3_w7 : w7.cell? ⟨gb, 3, none⟩ = some (.int .i64 x.f3) := (blk_cell BK.out 3).trans rfl; have hc5_w7 : w7.cell? ⟨gb, 5, none⟩ = some (.int .i64 x.f5) := (blk_cell BK.out 5).trans rfl; have g0_w7 := (HB.out.cell (World.block_lt_of_cell? W _ G0.out)).trans G0.out; have g1_w7 := (HB.out.cell (World.block_lt_of_cell? W _ G1.out)).trans G1.out))
      go_ret
      exact ⟨by first | rfl | (simp; done) | (simp [*]; done), HB.out⟩
    | false =>
      cases e3 : (k3 != 2) with
      | true =>
        obtain rfl : o = true := by rw [HO.out]; simp [e1, e2, e3]
        clear HO
        go_enter Tryz.func141, Tryz.ntmps141
        go_wp2_with (first | ((with_reducible refine gate_dst (N := 2) rfl ?_); refine box_event ?hg (N := 2) ?hd (cs := #[.int .i64 x.f0, .int .i64 x.f1, .int .i64 x.f2, .int .i64 x.f3, .int .i64 x.f4, .int .i64 x.f5, .int .i64 x.f6, .int .i64 x.f7]) (t := 60) ?hr ?_; (case hd => rfl); (case hg => rfl); (case hr => first | (go_simp; done) | (go_simp; rfl)); intro gb hg w5 hbox hb; have n0_ := Aside0.mk (below_step HB.out hb); clear HB; have HB := n0_; have BK := Aside0.mk hbox; clear n0_ hb hbox hg; have hc1_w5 : w5.cell? ⟨gb, 1, none⟩ = some (.int .i64 x.f1) := (blk_cell BK.out 1).trans rfl; have hc2_w5 : w5.cell? ⟨gb, 2, none⟩ = some (.int .i64 x.f2) := (blk_cell BK.out 2).trans rfl; have hc3_w5 : w5.cell? ⟨gb, 3, none⟩ = some (.int .i64 x.f3) := (blk_cell BK.out 3).trans rfl; have hc5_w5 : w5.cell? ⟨gb, 5, none⟩ = some (.int .i64 x.f5) := (blk_cell BK.out 5).trans rfl; have g0_w5 := (HB.out.cell (World.block_lt_of_cell? W _ G0.out)).trans G0.out; have g1_w5 := (HB.out.cell (World.block_lt_of_cell? W _ G1.out)).trans G1.out) | (go_at_call 108; (with_reducible refine (HK1.out _ HB.out).mono ?_); rintro e w6 ⟨rfl, hb⟩; have n0_ := Aside0.mk (below_step HB.out hb); have n1_ := Aside0.mk (blk_below BK.out hb); clear HB BK; have HB := n0_; have BK := n1_; clear n0_ n1_ hb; have hc1_w6 : w6.cell? ⟨gb, 1, none⟩ = some (.int .i64 x.f1) := (blk_cell BK.out 1).trans rfl; have hc2_w6 : w6.cell? ⟨gb, 2, none⟩ = some (.int .i64 x.f2) := (blk_cell BK.out 2).trans rfl; have hc3_w6 : w6.cell? ⟨gb, 3, none⟩ = some (.int .i64 x.f3) := (blk_cell BK.out 3).trans rfl; have hc5_w6 : w6.cell? ⟨gb, 5, none⟩ = some (.int .i64 x.f5) := (blk_cell BK.out 5).trans rfl; have g0_w6 := (HB.out.cell (World.block_lt_of_cell? W _ G0.out)).trans G0.out; have g1_w6 := (HB.out.cell (World.block_lt_of_cell? W _ G1.out)).trans G1.out) | (go_at_call 108; (with_reducible refine (HK2.out _ HB.out).mono ?_); rintro e w7 ⟨rfl, hb⟩; have n0_ := Aside0.mk (below_step HB.out hb); have n1_ := Aside0.mk (blk_below BK.out hb); clear HB BK; have HB := n0_; have BK := n1_; clear n0_ n1_ hb; have hc1_w7 : w7.cell? ⟨gb, 1, none⟩ = some (.int .i64 x.f1) := (blk_cell BK.out 1).trans rfl; have hc2_w7 : w7.cell? ⟨gb, 2, none⟩ = some (.int .i64 x.f2) := (blk_cell BK.out 2).trans rfl; have hc3_w7 : w7.cell? ⟨gb, 3, none⟩ = some (.int .i64 x.f3) := (blk_cell BK.out 3).trans rfl; have hc5_w7 : w7.cell? ⟨gb, 5, none⟩ = some (.int .i64 x.f5) := (blk_cell BK.out 5).trans rfl; have g0_w7 := (HB.out.cell (World.block_lt_of_cell? W _ G0.out)).trans G0.out; have g1_w7 := (HB.out.cell (World.block_lt_of_cell? W _ G1.out)).trans G1.out) | (go_at_call 110; (with_reducible refine (HK3.out _ HB.out).mono ?_); rintro e w8 ⟨rfl, hb⟩; have n0_ := Aside0.mk (below_step HB.out hb); have n1_ := Aside0.mk (blk_below BK.out hb); clear HB BK; have HB := n0_; have BK := n1_; clear n0_ n1_ hb; have hc1_w8 : w8.cell? ⟨gb, 1, none⟩ = some (.int .i64 x.f1) := (blk_cell BK.out 1).trans rfl; have hc2_w8 : w8.cell? ⟨gb, 2, none⟩ = some (.int .i64 x.f2) := (blk_cell BK.out 2).trans rfl; have hc3_w8 : w8.cell? ⟨gb, 3, none⟩ = some (.int .i64 x.f3) := (blk_cell BK.out 3).trans rfl; have hc5_w8 : w8.cell? ⟨gb, 5, none⟩ = some (.int .i64 x.f5) := (blk_cell BK.out 5).trans rfl; have g0_w8 := (HB.out.cell (World.block_lt_of_cell? W _ G0.out)).trans G0.out; have g1_w8 := (HB.out.cell (World.block_lt_of_cell? W _ G1.out)).trans G1.out))
        go_ret
        exact ⟨by first | rfl | (simp; done) | (simp [*]; done), HB.out⟩
      | false =>
        cases e4 : (k4 != 1) with
        | true =>
          obtain rfl : o = true := by rw [HO.out]; simp [e1, e2, e3, e4]
          clear HO
          go_enter Tryz.func141, Tryz.ntmps141
          go_wp2_with (first | ((with_reducible refine gate_dst (N := 2) rfl ?_); refine box_event ?hg (N := 2) ?hd (cs := #[.int .i64 x.f0, .int .i64 x.f1, .int .i64 x.f2, .int .i64 x.f3, .int .i64 x.f4, .int .i64 x.f5, .int .i64 x.f6, .int .i64 x.f7]) (t := 60) ?hr ?_; (case hd => rfl); (case hg => rfl); (case hr => first | (go_simp; done) | (go_simp; rfl)); intro gb hg w5 hbox hb; have n0_ := Aside0.mk (below_step HB.out hb); clear HB; have HB := n0_; have BK := Aside0.mk hbox; clear n0_ hb hbox hg; have hc1_w5 : w5.cell? ⟨gb, 1, none⟩ = some (.int .i64 x.f1) := (blk_cell BK.out 1).trans rfl; have hc2_w5 : w5.cell? ⟨gb, 2, none⟩ = some (.int .i64 x.f2) := (blk_cell BK.out 2).trans rfl; have hc3_w5 : w5.cell? ⟨gb, 3, none⟩ = some (.int .i64 x.f3) := (blk_cell BK.out 3).trans rfl; have hc5_w5 : w5.cell? ⟨gb, 5, none⟩ = some (.int .i64 x.f5) := (blk_cell BK.out 5).trans rfl; have g0_w5 := (HB.out.cell (World.block_lt_of_cell? W _ G0.out)).trans G0.out; have g1_w5 := (HB.out.cell (World.block_lt_of_cell? W _ G1.out)).trans G1.out) | (go_at_call 108; (with_reducible refine (HK1.out _ HB.out).mono ?_); rintro e w6 ⟨rfl, hb⟩; have n0_ := Aside0.mk (below_step HB.out hb); have n1_ := Aside0.mk (blk_below BK.out hb); clear HB BK; have HB := n0_; have BK := n1_; clear n0_ n1_ hb; have hc1_w6 : w6.cell? ⟨gb, 1, none⟩ = some (.int .i64 x.f1) := (blk_cell BK.out 1).trans rfl; have hc2_w6 : w6.cell? ⟨gb, 2, none⟩ = some (.int .i64 x.f2) := (blk_cell BK.out 2).trans rfl; have hc3_w6 : w6.cell? ⟨gb, 3, none⟩ = some (.int .i64 x.f3) := (blk_cell BK.out 3).trans rfl; have hc5_w6 : w6.cell? ⟨gb, 5, none⟩ = some (.int .i64 x.f5) := (blk_cell BK.out 5).trans rfl; have g0_w6 := (HB.out.cell (World.block_lt_of_cell? W _ G0.out)).trans G0.out; have g1_w6 := (HB.out.cell (World.block_lt_of_cell? W _ G1.out)).trans G1.out) | (go_at_call 108; (with_reducible refine (HK2.out _ HB.out).mono ?_); rintro e w7 ⟨rfl, hb⟩; have n0_ := Aside0.mk (below_step HB.out hb); have n1_ := Aside0.mk (blk_below BK.out hb); clear HB BK; have HB := n0_; have BK := n1_; clear n0_ n1_ hb; have hc1_w7 : w7.cell? ⟨gb, 1, none⟩ = some (.int .i64 x.f1) := (blk_cell BK.out 1).trans rfl; have hc2_w7 : w7.cell? ⟨gb, 2, none⟩ = some (.int .i64 x.f2) := (blk_cell BK.out 2).trans rfl; have hc3_w7 : w7.cell? ⟨gb, 3, none⟩ = some (.int .i64 x.f3) := (blk_cell BK.out 3).trans rfl; have hc5_w7 : w7.cell? ⟨gb, 5, none⟩ = some (.int .i64 x.f5) := (blk_cell BK.out 5).trans rfl; have g0_w7 := (HB.out.cell (World.block_lt_of_cell? W _ G0.out)).trans G0.out; have g1_w7 := (HB.out.cell (World.block_lt_of_cell? W _ G1.out)).trans G1.out) | (go_at_call 110; (with_reducible refine (HK3.out _ HB.out).mono ?_); rintro e w8 ⟨rfl, hb⟩; have n0_ := Aside0.mk (below_step HB.out hb); have n1_ := Aside0.mk (blk_below BK.out hb); clear HB BK; have HB := n0_; have BK := n1_; clear n0_ n1_ hb; have hc1_w8 : w8.cell? ⟨gb, 1, none⟩ = some (.int .i64 x.f1) := (blk_cell BK.out 1).trans rfl; have hc2_w8 : w8.cell? ⟨gb, 2, none⟩ = some (.int .i64 x.f2) := (blk_cell BK.out 2).trans rfl; have hc3_w8 : w8.cell? ⟨gb, 3, none⟩ = some (.int .i64 x.f3) := (blk_cell BK.out 3).trans rfl; have hc5_w8 : w8.cell? ⟨gb, 5, none⟩ = some (.int .i64 x.f5) := (blk_cell BK.out 5).trans rfl; have g0_w8 := (HB.out.cell (World.block_lt_of_cell? W _ G0.out)).trans G0.out; have g1_w8 := (HB.out.cell (World.block_lt_of_cell? W _ G1.out)).trans G1.out) | (go_at_call 110; (with_reducible refine (HK4.out _ HB.out).mono ?_); rintro e w9 ⟨rfl, hb⟩; have n0_ := Aside0.mk (below_step HB.out hb); have n1_ := Aside0.mk (blk_below BK.out hb); clear HB BK; have HB := n0_; have BK := n1_; clear n0_ n1_ hb; have hc1_w9 : w9.cell? ⟨gb, 1, none⟩ = some (.int .i64 x.f1) := (blk_cell BK.out 1).trans rfl; have hc2_w9 : w9.cell? ⟨gb, 2, none⟩ = some (.int .i64 x.f2) := (blk_cell BK.out 2).trans rfl; have hc3_w9 : w9.cell? ⟨gb, 3, none⟩ = some (.int .i64 x.f3) := (blk_cell BK.out 3).trans rfl; have hc5_w9 : w9.cell? ⟨gb, 5, none⟩ = some (.int .i64 x.f5) := (blk_cell BK.out 5).trans rfl; have g0_w9 := (HB.out.cell (World.block_lt_of_cell? W _ G0.out)).trans G0.out; have g1_w9 := (HB.out.cell (World.block_lt_of_cell? W _ G1.out)).trans G1.out))
          go_ret
          exact ⟨by first | rfl | (simp; done) | (simp [*]; done), HB.out⟩
        | false =>
          obtain rfl : o = false := by rw [HO.out]; simp [e1, e2, e3, e4]
          clear HO
          go_enter Tryz.func141, Tryz.ntmps141
          go_wp2_with (first | ((with_reducible refine gate_dst (N := 2) rfl ?_); refine box_event ?hg (N := 2) ?hd (cs := #[.int .i64 x.f0, .int .i64 x.f1, .int .i64 x.f2, .int .i64 x.f3, .int .i64 x.f4, .int .i64 x.f5, .int .i64 x.f6, .int .i64 x.f7]) (t := 60) ?hr ?_; (case hd => rfl); (case hg => rfl); (case hr => first | (go_simp; done) | (go_simp; rfl)); intro gb hg w5 hbox hb; have n0_ := Aside0.mk (below_step HB.out hb); clear HB; have HB := n0_; have BK := Aside0.mk hbox; clear n0_ hb hbox hg; have hc1_w5 : w5.cell? ⟨gb, 1, none⟩ = some (.int .i64 x.f1) := (blk_cell BK.out 1).trans rfl; have hc2_w5 : w5.cell? ⟨gb, 2, none⟩ = some (.int .i64 x.f2) := (blk_cell BK.out 2).trans rfl; have hc3_w5 : w5.cell? ⟨gb, 3, none⟩ = some (.int .i64 x.f3) := (blk_cell BK.out 3).trans rfl; have hc5_w5 : w5.cell? ⟨gb, 5, none⟩ = some (.int .i64 x.f5) := (blk_cell BK.out 5).trans rfl; have g0_w5 := (HB.out.cell (World.block_lt_of_cell? W _ G0.out)).trans G0.out; have g1_w5 := (HB.out.cell (World.block_lt_of_cell? W _ G1.out)).trans G1.out) | (go_at_call 108; (with_reducible refine (HK1.out _ HB.out).mono ?_); rintro e w6 ⟨rfl, hb⟩; have n0_ := Aside0.mk (below_step HB.out hb); have n1_ := Aside0.mk (blk_below BK.out hb); clear HB BK; have HB := n0_; have BK := n1_; clear n0_ n1_ hb; have hc1_w6 : w6.cell? ⟨gb, 1, none⟩ = some (.int .i64 x.f1) := (blk_cell BK.out 1).trans rfl; have hc2_w6 : w6.cell? ⟨gb, 2, none⟩ = some (.int .i64 x.f2) := (blk_cell BK.out 2).trans rfl; have hc3_w6 : w6.cell? ⟨gb, 3, none⟩ = some (.int .i64 x.f3) := (blk_cell BK.out 3).trans rfl; have hc5_w6 : w6.cell? ⟨gb, 5, none⟩ = some (.int .i64 x.f5) := (blk_cell BK.out 5).trans rfl; have g0_w6 := (HB.out.cell (World.block_lt_of_cell? W _ G0.out)).trans G0.out; have g1_w6 := (HB.out.cell (World.block_lt_of_cell? W _ G1.out)).trans G1.out) | (go_at_call 108; (with_reducible refine (HK2.out _ HB.out).mono ?_); rintro e w7 ⟨rfl, hb⟩; have n0_ := Aside0.mk (below_step HB.out hb); have n1_ := Aside0.mk (blk_below BK.out hb); clear HB BK; have HB := n0_; have BK := n1_; clear n0_ n1_ hb; have hc1_w7 : w7.cell? ⟨gb, 1, none⟩ = some (.int .i64 x.f1) := (blk_cell BK.out 1).trans rfl; have hc2_w7 : w7.cell? ⟨gb, 2, none⟩ = some (.int .i64 x.f2) := (blk_cell BK.out 2).trans rfl; have hc3_w7 : w7.cell? ⟨gb, 3, none⟩ = some (.int .i64 x.f3) := (blk_cell BK.out 3).trans rfl; have hc5_w7 : w7.cell? ⟨gb, 5, none⟩ = some (.int .i64 x.f5) := (blk_cell BK.out 5).trans rfl; have g0_w7 := (HB.out.cell (World.block_lt_of_cell? W _ G0.out)).trans G0.out; have g1_w7 := (HB.out.cell (World.block_lt_of_cell? W _ G1.out)).trans G1.out) | (go_at_call 110; (with_reducible refine (HK3.out _ HB.out).mono ?_); rintro e w8 ⟨rfl, hb⟩; have n0_ := Aside0.mk (below_step HB.out hb); have n1_ := Aside0.mk (blk_below BK.out hb); clear HB BK; have HB := n0_; have BK := n1_; clear n0_ n1_ hb; have hc1_w8 : w8.cell? ⟨gb, 1, none⟩ = some (.int .i64 x.f1) := (blk_cell BK.out 1).trans rfl; have hc2_w8 : w8.cell? ⟨gb, 2, none⟩ = some (.int .i64 x.f2) := (blk_cell BK.out 2).trans rfl; have hc3_w8 : w8.cell? ⟨gb, 3, none⟩ = some (.int .i64 x.f3) := (blk_cell BK.out 3).trans rfl; have hc5_w8 : w8.cell? ⟨gb, 5, none⟩ = some (.int .i64 x.f5) := (blk_cell BK.out 5).trans rfl; have g0_w8 := (HB.out.cell (World.block_lt_of_cell? W _ G0.out)).trans G0.out; have g1_w8 := (HB.out.cell (World.block_lt_of_cell? W _ G1.out)).trans G1.out) | (go_at_call 110; (with_reducible refine (HK4.out _ HB.out).mono ?_); rintro e w9 ⟨rfl, hb⟩; have n0_ := Aside0.mk (below_step HB.out hb); have n1_ := Aside0.mk (blk_below BK.out hb); clear HB BK; have HB := n0_; have BK := n1_; clear n0_ n1_ hb; have hc1_w9 : w9.cell? ⟨gb, 1, none⟩ = some (.int .i64 x.f1) := (blk_cell BK.out 1).trans rfl; have hc2_w9 : w9.cell? ⟨gb, 2, none⟩ = some (.int .i64 x.f2) := (blk_cell BK.out 2).trans rfl; have hc3_w9 : w9.cell? ⟨gb, 3, none⟩ = some (.int .i64 x.f3) := (blk_cell BK.out 3).trans rfl; have hc5_w9 : w9.cell? ⟨gb, 5, none⟩ = some (.int .i64 x.f5) := (blk_cell BK.out 5).trans rfl; have g0_w9 := (HB.out.cell (World.block_lt_of_cell? W _ G0.out)).trans G0.out; have g1_w9 := (HB.out.cell (World.block_lt_of_cell? W _ G1.out)).trans G1.out))
          go_ret
          exact ⟨by first | rfl | (simp; done) | (simp [*]; done), HB.out⟩
theorem impl_tradesRight.pred {B : Nat} {A0 : Option Addr} {c0 : Nat} {l0 : List (S80)} {A1 : Option Addr} {c1 : Nat} {l1 : List (S84)} {w : World} (h0 : w.cell? ⟨B, 0, none⟩ = some (.slice A0 l0.length c0)) (h1 : w.cell? ⟨B, 1, none⟩ = some (.slice A1 l1.length c1)) (hC0 : Kd.C k80 w A0 l0.length l0) (hC1 : Kd.C k84 w A1 l1.length l1) (hc0 : l0.length ≤ c0) (hc1 : l1.length ≤ c1) (hl0 : l0.length < 1048577) (hl1 : l1.length < 1048577) :
    X0.FnB Tryz.prog 141 #[.pointer (some ⟨B, 0, none⟩)] w (fun x : S60 => .agg #[.int .i64 x.f0, .int .i64 x.f1, .int .i64 x.f2, .int .i64 x.f3, .int .i64 x.f4, .int .i64 x.f5, .int .i64 x.f6, .int .i64 x.f7]) (impl_tradesRight.bad l0 l1) :=
  ⟨_, Tryz.func141, by kernel_rfl, rfl, fun x W hW => impl_tradesRight.clo B A0 c0 l0 A1 c1 l1 x W ((hW.cell (World.block_lt_of_cell? w _ h0)).trans h0) ((hW.cell (World.block_lt_of_cell? w _ h1)).trans h1) (Kd.C_below hC0 hW) (Kd.C_below hC1 hW) hc0 hc1 hl0 hl1⟩
theorem impl_tradesRight.calls (A0_0 : Option Addr) (c0_0 : Nat) (l0_0 : List (S80)) (A0_1 : Option Addr) (c0_1 : Nat) (l0_1 : List (S84)) (A0_2 : Option Addr) (c0_2 : Nat) (l0_2 : List (S106)) (A0_3 : Option Addr) (c0_3 : Nat) (l0_3 : List (S110)) (A0_4 : Option Addr) (c0_4 : Nat) (l0_4 : List (S60)) (a0_5 : Int) (r : Bool) (w : World) (hr0_0 : Kd.C k80 w A0_0 l0_0.length l0_0) (hc0_0 : l0_0.length ≤ c0_0) (hr0_1 : Kd.C k84 w A0_1 l0_1.length l0_1) (hc0_1 : l0_1.length ≤ c0_1) (hr0_2 : Kd.C k106 w A0_2 l0_2.length l0_2) (hc0_2 : l0_2.length ≤ c0_2) (hr0_3 : Kd.C k110 w A0_3 l0_3.length l0_3) (hc0_3 : l0_3.length ≤ c0_3) (hr0_4 : Kd.C k60 w A0_4 l0_4.length l0_4) (hc0_4 : l0_4.length ≤ c0_4) (h : impl_tradesRight.f l0_0 l0_1 l0_2 l0_3 l0_4 a0_5 = some r) :
    Calls Tryz.prog 96 #[.agg #[.slice A0_0 l0_0.length c0_0, .slice A0_1 l0_1.length c0_1, .slice A0_2 l0_2.length c0_2, .slice A0_3 l0_3.length c0_3, .slice A0_4 l0_4.length c0_4, .int .i64 a0_5]] w fun e w' => e = .returned (.bool r) ∧ Below w.heap.size w w' := by
  unfold impl_tradesRight.f at h
  by_cases hh : l0_0.length < 1048577 ∧ l0_1.length < 1048577
  · rw [if_pos hh] at h
    obtain rfl := Option.some.inj h
    have HB := Aside0.mk (Below.refl w.heap.size w)
    have HR0 := Aside0.mk hr0_0
    have HC0 := Aside0.mk hc0_0
    have HR1 := Aside0.mk hr0_1
    have HC1 := Aside0.mk hc0_1
    have HR4 := Aside0.mk hr0_4
    have HC4 := Aside0.mk hc0_4
    have HL := Aside0.mk hh
    clear hr0_0 hc0_0 hr0_1 hc0_1 hr0_2 hc0_2 hr0_3 hc0_3 hr0_4 hc0_4 hh h
    go_enter Tryz.func96, Tryz.ntmps96
    go_wp2_with (first | ((with_reducible refine gate_dst (N := 1) rfl ?_); refine box_event ?hg (N := 1) ?hd (cs := #[.slice A0_0 l0_0.length c0_0, .slice A0_1 l0_1.length c0_1, .slice A0_2 l0_2.length c0_2, .slice A0_3 l0_3.length c0_3, .slice A0_4 l0_4.length c0_4, .int .i64 a0_5]) (t := 36) ?hr ?_; (case hd => rfl); (case hg => rfl); (case hr => first | (go_simp; done) | (go_simp; rfl)); intro gb hg w5 hbox hb; have n0_ := Aside0.mk (below_step HB.out hb); clear HB; have HB := n0_; have BK := Aside0.mk hbox; clear n0_ hb hbox hg; have hc4_w5 : w5.cell? ⟨gb, 4, none⟩ = some (.slice A0_4 l0_4.length c0_4) := (blk_cell BK.out 4).trans rfl) | ((with_reducible refine gate_callee (f := 140) rfl ?_); (try (refine gate_guard (by rfl) ?_; dsimp only)); refine goesL_ (some 6) rfl rfl Tryz.func140 (by kernel_rfl) rfl #[.slice A0_4 l0_4.length c0_4, .func (.func 141) #[] #[.pointer (some ⟨gb, 0, none⟩)]] rfl (by (try simp only [List.map_toArray, List.map_cons, List.map_nil]); first | done | rfl) ?_; (with_reducible refine (ContainsFunc_st60.calls _ _ l0_4 _ #[.pointer (some ⟨gb, 0, none⟩)] (impl_tradesRight.bad l0_0 l0_1) _ (Kd.C_below HR4.out HB.out) HC4.out (impl_tradesRight.pred ((blk_cell BK.out 0).trans rfl) ((blk_cell BK.out 1).trans rfl) (Kd.C_below HR0.out HB.out) (Kd.C_below HR1.out HB.out) HC0.out HC1.out HL.out.1 HL.out.2)).mono ?_); rintro e w6 ⟨rfl, hb⟩; refine ⟨_, rfl, ?_⟩; have n0_ := Aside0.mk (below_step HB.out hb); clear HB; have HB := n0_; clear n0_ hb))
    go_ret
    exact ⟨by first | rfl | (simp; done) | (simp [*]; done), HB.out⟩
  · rw [if_neg hh] at h
    cases h
theorem impl_Account_97.calls (A0 : Option Addr) (c0 : Nat) (l0 : List (S80)) (r : List (S80)) (w : World) (hr0 : Kd.C k80 w A0 l0.length l0) (hc0 : l0.length ≤ c0) (h : impl_Account_97.f l0 = some r) :
    Calls Tryz.prog 97 #[.slice A0 l0.length c0] w fun e w' => ∃ v0_ : Value, e = .returned (v0_) ∧ Kd.R k80 80 w' w.heap.size (fun _ => True) v0_ r ∧ Below w.heap.size w w' := by
  have HR0 := Aside0.mk hr0
  have HC0 := Aside0.mk hc0
  clear hr0 hc0
  have HB := Aside0.mk (Below.refl w.heap.size w)
  have H : ((some (([] : List (S80)) : List (S80))).bind fun y481 => (if y481.length + l0.length < 8796093022208 then (some (y481 ++ l0)) else (none))) = some r := h
  clear h
  obtain ⟨y481, hy481⟩ : ∃ y_ : List (S80), y_ = (([] : List (S80))) := ⟨_, rfl⟩
  replace H : (if y481.length + l0.length < 8796093022208 then (some (y481 ++ l0)) else (none)) = some r := by first | (rw [hy481]; with_reducible exact H) | (have H2_ := (Option.bind_some _ _).symm.trans H; rw [hy481]; with_reducible exact H2_) | (have H2_ := (Option.bind_some _ _).symm.trans H; with_reducible exact H2_) | with_reducible exact H | (rw [hy481]; exact H) | exact H
  have Ny481 := Aside0.mk hy481
  clear hy481
  by_cases c2 : y481.length + l0.length < 8796093022208
  · rw [if_pos c2] at H
    have LMc2 := Aside0.mk c2
    clear c2
    obtain ⟨y484, hy484⟩ : ∃ y_ : List (S80), y_ = (y481 ++ l0) := ⟨_, rfl⟩
    replace H : (some y484) = some r := by first | (rw [hy484]; with_reducible exact H) | (have H2_ := (Option.bind_some _ _).symm.trans H; rw [hy484]; with_reducible exact H2_) | (have H2_ := (Option.bind_some _ _).symm.trans H; with_reducible exact H2_) | with_reducible exact H | (rw [hy484]; exact H) | exact H
    have Ny484 := Aside0.mk hy484
    clear hy484
    obtain rfl := Option.some.inj H
    have q_ : ∀ (W : World) (a : Option Addr) (n c n' c' : Nat), (binOp .eql 30 (.slice a n c) (.slice none n' c')).run Tryz.prog W = .ok (.bool a.isNone) W := fun W a n c n' c' => Lib.run_eql_slice_nil W _ _ a n c n' c' Tryz.underlying30
    cases A0 with
    | none =>
      have e0_ : l0 = [] := by
        have h_ : ReadsRow _ _ _ _ _ _ := HR0.out
        unfold ReadsRow at h_
        obtain ⟨h1_, _, h2_⟩ := h_
        apply List.eq_nil_of_length_eq_zero
        apply Classical.byContradiction
        intro hn_
        obtain ⟨ad_, e_, _⟩ := h2_ (by omega)
        cases e_
      have Ny0_ : y484 = [] := by rw [Ny484.out, Ny481.out, e0_]; rfl
      subst Ny0_
      go_enter Tryz.func97, Tryz.ntmps97
      go_wp2
      go_ret
      exact ⟨_, by first | rfl | (simp; done) | (simp [*]; done), Kd.R_nil _ _ _ _ _, HB.out⟩
    | some ad0 =>
      go_enter Tryz.func97, Tryz.ntmps97
      go_wp2_with (first | ((with_reducible refine gate_dst (N := 5) rfl ?_); refine Kd.R_lit k80 _ 80 ?hg (N := 5) ?hd (xs := ([] : List (S80))) (inner := []) (ok := fun _ => True) (okp := fun _ => True) ?hr ?hp (fun _ hk => hk) trivial (Below.refl _ _) (Nat.le_refl _) (by simp) ?_; (case hd => rfl); (case hg => rfl); (case hr => first | (go_simp; done) | (go_simp; rfl)); (case hp => exact (Reps.none _ _)); intro v482 w3 ho4 hb hg_ hnew_; clear hg_ hnew_; (first | rw [← Ny481.out] at ho4 | (simp only [Int.reduceToNat] at ho4; rw [← Ny481.out] at ho4)); have n0_ := Aside0.mk (Kd.R_lower ho4 (below_size (by repeat (first | (with_reducible first | exact HB.out | apply below_alloc | apply pw_below_drewN | apply below_drew1) | exact HB.out)))); have n1_ := Aside0.mk (below_step (by repeat (first | (with_reducible first | exact HB.out | apply below_alloc | apply pw_below_drewN | apply below_drew1) | exact HB.out)) hb); clear HB; have HO483 := n0_; have HB := n1_; clear n0_ n1_; clear hb ho4) | ((with_reducible refine gate_builtin (b := .append) (xs := #[.tmp 5, .tmp 6]) rfl ?_); at_builtin; refine Kd.R_append_rows k80 (w0 := w) w.heap.size rfl (.tmp 5) (.tmp 6) 30 80 (.agg #[(.int .i64 0), (.int .i64 0)]) 16 rfl Tryz.underlying30 info80 rfl (by decide) (by omega) v482 y481 l0 _ _ _ (fun _ => True) (fun _ => False) rfl rfl ?aO ?aR (fun _ _ h => h) (fun _ h => h.elim) ?aF ?aB ?aS ?aL ?_; (case aR => repeat (first | exact (Kd.C_below HR0.out HB.out) | (with_reducible refine Kd.C_alloc ?_ _) | (with_reducible refine Kd.C_drewN ?_ _) | (with_reducible refine Kd.C_drew ?_))); (case aB => exact (by repeat (first | (with_reducible first | exact HB.out | apply below_alloc | apply pw_below_drewN | apply below_drew1) | exact HB.out))); (case aF => exact (fun _ _ => trivial)); (case aO => exact (by (with_reducible repeat (first | apply Kd.R_alloc | apply Kd.R_drewN | apply Kd.R_drew)); exact HO483.out)); (case aS => exact (below_size (by repeat (first | (with_reducible first | exact HB.out | apply below_alloc | apply pw_below_drewN | apply below_drew1) | exact HB.out)))); (case aL => have := LMc2.out; omega); intro v485 w5 ho hb hg hat; rw [← Ny484.out] at ho; have n0_ := Aside0.mk (hb); have n1_ := Aside0.mk (ho); clear HB; clear HO483; have HB := n0_; have HO486 := n1_; clear n0_ n1_; clear ho hb hg hat))
      go_ret
      exact ⟨_, by first | rfl | (simp [errW_none, errW_some] <;> rfl) | (simp [*, errW_none, errW_some] <;> rfl), by (with_reducible repeat (first | apply Kd.R_alloc | apply Kd.R_drewN | apply Kd.R_drew)); exact HO486.out, by repeat (first | (with_reducible first | exact HB.out | apply below_alloc | apply pw_below_drewN | apply below_drew1) | exact HB.out)⟩
  · rw [if_neg c2] at H
    exact absurd H (by simp)
theorem impl_Instr_98.calls (A0 : Option Addr) (c0 : Nat) (l0 : List (S84)) (r : List (S84)) (w : World) (hr0 : Kd.C k84 w A0 l0.length l0) (hc0 : l0.length ≤ c0) (h : impl_Instr_98.f l0 = some r) :
    Calls Tryz.prog 98 #[.slice A0 l0.length c0] w fun e w' => ∃ v0_ : Value, e = .returned (v0_) ∧ Kd.R k84 84 w' w.heap.size (fun _ => True) v0_ r ∧ Below w.heap.size w w' := by
  have HR0 := Aside0.mk hr0
  have HC0 := Aside0.mk hc0
  clear hr0 hc0
  have HB := Aside0.mk (Below.refl w.heap.size w)
  have H : ((some (([] : List (S84)) : List (S84))).bind fun y487 => (if y487.length + l0.length < 8796093022208 then (some (y487 ++ l0)) else (none))) = some r := h
  clear h
  obtain ⟨y487, hy487⟩ : ∃ y_ : List (S84), y_ = (([] : List (S84))) := ⟨_, rfl⟩
  replace H : (if y487.length + l0.length < 8796093022208 then (some (y487 ++ l0)) else (none)) = some r := by first | (rw [hy487]; with_reducible exact H) | (have H2_ := (Option.bind_some _ _).symm.trans H; rw [hy487]; with_reducible exact H2_) | (have H2_ := (Option.bind_some _ _).symm.trans H; with_reducible exact H2_) | with_reducible exact H | (rw [hy487]; exact H) | exact H
  have Ny487 := Aside0.mk hy487
  clear hy487
  by_cases c2 : y487.length + l0.length < 8796093022208
  · rw [if_pos c2] at H
    have LMc2 := Aside0.mk c2
    clear c2
    obtain ⟨y490, hy490⟩ : ∃ y_ : List (S84), y_ = (y487 ++ l0) := ⟨_, rfl⟩
    replace H : (some y490) = some r := by first | (rw [hy490]; with_reducible exact H) | (have H2_ := (Option.bind_some _ _).symm.trans H; rw [hy490]; with_reducible exact H2_) | (have H2_ := (Option.bind_some _ _).symm.trans H; with_reducible exact H2_) | with_reducible exact H | (rw [hy490]; exact H) | exact H
    have Ny490 := Aside0.mk hy490
    clear hy490
    obtain rfl := Option.some.inj H
    have q_ : ∀ (W : World) (a : Option Addr) (n c n' c' : Nat), (binOp .eql 31 (.slice a n c) (.slice none n' c')).run Tryz.prog W = .ok (.bool a.isNone) W := fun W a n c n' c' => Lib.run_eql_slice_nil W _ _ a n c n' c' Tryz.underlying31
    cases A0 with
    | none =>
      have e0_ : l0 = [] := by
        have h_ : ReadsRow _ _ _ _ _ _ := HR0.out
        unfold ReadsRow at h_
        obtain ⟨h1_, _, h2_⟩ := h_
        apply List.eq_nil_of_length_eq_zero
        apply Classical.byContradiction
        intro hn_
        obtain ⟨ad_, e_, _⟩ := h2_ (by omega)
        cases e_
      have Ny0_ : y490 = [] := by rw [Ny490.out, Ny487.out, e0_]; rfl
      subst Ny0_
      go_enter Tryz.func98, Tryz.ntmps98
      go_wp2
      go_ret
      exact ⟨_, by first | rfl | (simp; done) | (simp [*]; done), Kd.R_nil _ _ _ _ _, HB.out⟩
    | some ad0 =>
      go_enter Tryz.func98, Tryz.ntmps98
      go_wp2_with (first | ((with_reducible refine gate_dst (N := 5) rfl ?_); refine Kd.R_lit k84 _ 84 ?hg (N := 5) ?hd (xs := ([] : List (S84))) (inner := []) (ok := fun _ => True) (okp := fun _ => True) ?hr ?hp (fun _ hk => hk) trivial (Below.refl _ _) (Nat.le_refl _) (by simp) ?_; (case hd => rfl); (case hg => rfl); (case hr => first | (go_simp; done) | (go_simp; rfl)); (case hp => exact (Reps.none _ _)); intro v488 w3 ho4 hb hg_ hnew_; clear hg_ hnew_; (first | rw [← Ny487.out] at ho4 | (simp only [Int.reduceToNat] at ho4; rw [← Ny487.out] at ho4)); have n0_ := Aside0.mk (Kd.R_lower ho4 (below_size (by repeat (first | (with_reducible first | exact HB.out | apply below_alloc | apply pw_below_drewN | apply below_drew1) | exact HB.out)))); have n1_ := Aside0.mk (below_step (by repeat (first | (with_reducible first | exact HB.out | apply below_alloc | apply pw_below_drewN | apply below_drew1) | exact HB.out)) hb); clear HB; have HO489 := n0_; have HB := n1_; clear n0_ n1_; clear hb ho4) | ((with_reducible refine gate_builtin (b := .append) (xs := #[.tmp 5, .tmp 6]) rfl ?_); at_builtin; refine Kd.R_append_rows k84 (w0 := w) w.heap.size rfl (.tmp 5) (.tmp 6) 31 84 (.agg #[(.int .i64 0), (.int .i64 0)]) 16 rfl Tryz.underlying31 info84 rfl (by decide) (by omega) v488 y487 l0 _ _ _ (fun _ => True) (fun _ => False) rfl rfl ?aO ?aR (fun _ _ h => h) (fun _ h => h.elim) ?aF ?aB ?aS ?aL ?_; (case aR => repeat (first | exact (Kd.C_below HR0.out HB.out) | (with_reducible refine Kd.C_alloc ?_ _) | (with_reducible refine Kd.C_drewN ?_ _) | (with_reducible refine Kd.C_drew ?_))); (case aB => exact (by repeat (first | (with_reducible first | exact HB.out | apply below_alloc | apply pw_below_drewN | apply below_drew1) | exact HB.out))); (case aF => exact (fun _ _ => trivial)); (case aO => exact (by (with_reducible repeat (first | apply Kd.R_alloc | apply Kd.R_drewN | apply Kd.R_drew)); exact HO489.out)); (case aS => exact (below_size (by repeat (first | (with_reducible first | exact HB.out | apply below_alloc | apply pw_below_drewN | apply below_drew1) | exact HB.out)))); (case aL => have := LMc2.out; omega); intro v491 w5 ho hb hg hat; rw [← Ny490.out] at ho; have n0_ := Aside0.mk (hb); have n1_ := Aside0.mk (ho); clear HB; clear HO489; have HB := n0_; have HO492 := n1_; clear n0_ n1_; clear ho hb hg hat))
      go_ret
      exact ⟨_, by first | rfl | (simp [errW_none, errW_some] <;> rfl) | (simp [*, errW_none, errW_some] <;> rfl), by (with_reducible repeat (first | apply Kd.R_alloc | apply Kd.R_drewN | apply Kd.R_drew)); exact HO492.out, by repeat (first | (with_reducible first | exact HB.out | apply below_alloc | apply pw_below_drewN | apply below_drew1) | exact HB.out)⟩
  · rw [if_neg c2] at H
    exact absurd H (by simp)
theorem impl_Bal_99.calls (A0 : Option Addr) (c0 : Nat) (l0 : List (S106)) (r : List (S106)) (w : World) (hr0 : Kd.C k106 w A0 l0.length l0) (hc0 : l0.length ≤ c0) (h : impl_Bal_99.f l0 = some r) :
    Calls Tryz.prog 99 #[.slice A0 l0.length c0] w fun e w' => ∃ v0_ : Value, e = .returned (v0_) ∧ Kd.R k106 106 w' w.heap.size (fun _ => True) v0_ r ∧ Below w.heap.size w w' := by
  have HR0 := Aside0.mk hr0
  have HC0 := Aside0.mk hc0
  clear hr0 hc0
  have HB := Aside0.mk (Below.refl w.heap.size w)
  have H : ((some (([] : List (S106)) : List (S106))).bind fun y493 => (if y493.length + l0.length < 5864062014805 then (some (y493 ++ l0)) else (none))) = some r := h
  clear h
  obtain ⟨y493, hy493⟩ : ∃ y_ : List (S106), y_ = (([] : List (S106))) := ⟨_, rfl⟩
  replace H : (if y493.length + l0.length < 5864062014805 then (some (y493 ++ l0)) else (none)) = some r := by first | (rw [hy493]; with_reducible exact H) | (have H2_ := (Option.bind_some _ _).symm.trans H; rw [hy493]; with_reducible exact H2_) | (have H2_ := (Option.bind_some _ _).symm.trans H; with_reducible exact H2_) | with_reducible exact H | (rw [hy493]; exact H) | exact H
  have Ny493 := Aside0.mk hy493
  clear hy493
  by_cases c2 : y493.length + l0.length < 5864062014805
  · rw [if_pos c2] at H
    have LMc2 := Aside0.mk c2
    clear c2
    obtain ⟨y496, hy496⟩ : ∃ y_ : List (S106), y_ = (y493 ++ l0) := ⟨_, rfl⟩
    replace H : (some y496) = some r := by first | (rw [hy496]; with_reducible exact H) | (have H2_ := (Option.bind_some _ _).symm.trans H; rw [hy496]; with_reducible exact H2_) | (have H2_ := (Option.bind_some _ _).symm.trans H; with_reducible exact H2_) | with_reducible exact H | (rw [hy496]; exact H) | exact H
    have Ny496 := Aside0.mk hy496
    clear hy496
    obtain rfl := Option.some.inj H
    have q_ : ∀ (W : World) (a : Option Addr) (n c n' c' : Nat), (binOp .eql 32 (.slice a n c) (.slice none n' c')).run Tryz.prog W = .ok (.bool a.isNone) W := fun W a n c n' c' => Lib.run_eql_slice_nil W _ _ a n c n' c' Tryz.underlying32
    cases A0 with
    | none =>
      have e0_ : l0 = [] := by
        have h_ : ReadsRow _ _ _ _ _ _ := HR0.out
        unfold ReadsRow at h_
        obtain ⟨h1_, _, h2_⟩ := h_
        apply List.eq_nil_of_length_eq_zero
        apply Classical.byContradiction
        intro hn_
        obtain ⟨ad_, e_, _⟩ := h2_ (by omega)
        cases e_
      have Ny0_ : y496 = [] := by rw [Ny496.out, Ny493.out, e0_]; rfl
      subst Ny0_
      go_enter Tryz.func99, Tryz.ntmps99
      go_wp2
      go_ret
      exact ⟨_, by first | rfl | (simp; done) | (simp [*]; done), Kd.R_nil _ _ _ _ _, HB.out⟩
    | some ad0 =>
      go_enter Tryz.func99, Tryz.ntmps99
      go_wp2_with (first | ((with_reducible refine gate_dst (N := 5) rfl ?_); refine Kd.R_lit k106 _ 106 ?hg (N := 5) ?hd (xs := ([] : List (S106))) (inner := []) (ok := fun _ => True) (okp := fun _ => True) ?hr ?hp (fun _ hk => hk) trivial (Below.refl _ _) (Nat.le_refl _) (by simp) ?_; (case hd => rfl); (case hg => rfl); (case hr => first | (go_simp; done) | (go_simp; rfl)); (case hp => exact (Reps.none _ _)); intro v494 w3 ho4 hb hg_ hnew_; clear hg_ hnew_; (first | rw [← Ny493.out] at ho4 | (simp only [Int.reduceToNat] at ho4; rw [← Ny493.out] at ho4)); have n0_ := Aside0.mk (Kd.R_lower ho4 (below_size (by repeat (first | (with_reducible first | exact HB.out | apply below_alloc | apply pw_below_drewN | apply below_drew1) | exact HB.out)))); have n1_ := Aside0.mk (below_step (by repeat (first | (with_reducible first | exact HB.out | apply below_alloc | apply pw_below_drewN | apply below_drew1) | exact HB.out)) hb); clear HB; have HO495 := n0_; have HB := n1_; clear n0_ n1_; clear hb ho4) | ((with_reducible refine gate_builtin (b := .append) (xs := #[.tmp 5, .tmp 6]) rfl ?_); at_builtin; refine Kd.R_append_rows k106 (w0 := w) w.heap.size rfl (.tmp 5) (.tmp 6) 32 106 (.agg #[(.int .i64 0), (.int .i64 0), (.int .i64 0)]) 24 rfl Tryz.underlying32 info106 rfl (by decide) (by omega) v494 y493 l0 _ _ _ (fun _ => True) (fun _ => False) rfl rfl ?aO ?aR (fun _ _ h => h) (fun _ h => h.elim) ?aF ?aB ?aS ?aL ?_; (case aR => repeat (first | exact (Kd.C_below HR0.out HB.out) | (with_reducible refine Kd.C_alloc ?_ _) | (with_reducible refine Kd.C_drewN ?_ _) | (with_reducible refine Kd.C_drew ?_))); (case aB => exact (by repeat (first | (with_reducible first | exact HB.out | apply below_alloc | apply pw_below_drewN | apply below_drew1) | exact HB.out))); (case aF => exact (fun _ _ => trivial)); (case aO => exact (by (with_reducible repeat (first | apply Kd.R_alloc | apply Kd.R_drewN | apply Kd.R_drew)); exact HO495.out)); (case aS => exact (below_size (by repeat (first | (with_reducible first | exact HB.out | apply below_alloc | apply pw_below_drewN | apply below_drew1) | exact HB.out)))); (case aL => have := LMc2.out; omega); intro v497 w5 ho hb hg hat; rw [← Ny496.out] at ho; have n0_ := Aside0.mk (hb); have n1_ := Aside0.mk (ho); clear HB; clear HO495; have HB := n0_; have HO498 := n1_; clear n0_ n1_; clear ho hb hg hat))
      go_ret
      exact ⟨_, by first | rfl | (simp [errW_none, errW_some] <;> rfl) | (simp [*, errW_none, errW_some] <;> rfl), by (with_reducible repeat (first | apply Kd.R_alloc | apply Kd.R_drewN | apply Kd.R_drew)); exact HO498.out, by repeat (first | (with_reducible first | exact HB.out | apply below_alloc | apply pw_below_drewN | apply below_drew1) | exact HB.out)⟩
  · rw [if_neg c2] at H
    exact absurd H (by simp)
theorem impl_Trade.calls (A0 : Option Addr) (c0 : Nat) (l0 : List (S60)) (r : List (S60)) (w : World) (hr0 : Kd.C k60 w A0 l0.length l0) (hc0 : l0.length ≤ c0) (h : impl_Trade.f l0 = some r) :
    Calls Tryz.prog 101 #[.slice A0 l0.length c0] w fun e w' => ∃ v0_ : Value, e = .returned (v0_) ∧ Kd.R k60 60 w' w.heap.size (fun _ => True) v0_ r ∧ Below w.heap.size w w' := by
  have HR0 := Aside0.mk hr0
  have HC0 := Aside0.mk hc0
  clear hr0 hc0
  have HB := Aside0.mk (Below.refl w.heap.size w)
  have H : ((some (([] : List (S60)) : List (S60))).bind fun y499 => (if y499.length + l0.length < 2199023255552 then (some (y499 ++ l0)) else (none))) = some r := h
  clear h
  obtain ⟨y499, hy499⟩ : ∃ y_ : List (S60), y_ = (([] : List (S60))) := ⟨_, rfl⟩
  replace H : (if y499.length + l0.length < 2199023255552 then (some (y499 ++ l0)) else (none)) = some r := by first | (rw [hy499]; with_reducible exact H) | (have H2_ := (Option.bind_some _ _).symm.trans H; rw [hy499]; with_reducible exact H2_) | (have H2_ := (Option.bind_some _ _).symm.trans H; with_reducible exact H2_) | with_reducible exact H | (rw [hy499]; exact H) | exact H
  have Ny499 := Aside0.mk hy499
  clear hy499
  by_cases c2 : y499.length + l0.length < 2199023255552
  · rw [if_pos c2] at H
    have LMc2 := Aside0.mk c2
    clear c2
    obtain ⟨y502, hy502⟩ : ∃ y_ : List (S60), y_ = (y499 ++ l0) := ⟨_, rfl⟩
    replace H : (some y502) = some r := by first | (rw [hy502]; with_reducible exact H) | (have H2_ := (Option.bind_some _ _).symm.trans H; rw [hy502]; with_reducible exact H2_) | (have H2_ := (Option.bind_some _ _).symm.trans H; with_reducible exact H2_) | with_reducible exact H | (rw [hy502]; exact H) | exact H
    have Ny502 := Aside0.mk hy502
    clear hy502
    obtain rfl := Option.some.inj H
    have q_ : ∀ (W : World) (a : Option Addr) (n c n' c' : Nat), (binOp .eql 34 (.slice a n c) (.slice none n' c')).run Tryz.prog W = .ok (.bool a.isNone) W := fun W a n c n' c' => Lib.run_eql_slice_nil W _ _ a n c n' c' Tryz.underlying34
    cases A0 with
    | none =>
      have e0_ : l0 = [] := by
        have h_ : ReadsRow _ _ _ _ _ _ := HR0.out
        unfold ReadsRow at h_
        obtain ⟨h1_, _, h2_⟩ := h_
        apply List.eq_nil_of_length_eq_zero
        apply Classical.byContradiction
        intro hn_
        obtain ⟨ad_, e_, _⟩ := h2_ (by omega)
        cases e_
      have Ny0_ : y502 = [] := by rw [Ny502.out, Ny499.out, e0_]; rfl
      subst Ny0_
      go_enter Tryz.func101, Tryz.ntmps101
      go_wp2
      go_ret
      exact ⟨_, by first | rfl | (simp; done) | (simp [*]; done), Kd.R_nil _ _ _ _ _, HB.out⟩
    | some ad0 =>
      go_enter Tryz.func101, Tryz.ntmps101
      go_wp2_with (first | ((with_reducible refine gate_dst (N := 5) rfl ?_); refine Kd.R_lit k60 _ 60 ?hg (N := 5) ?hd (xs := ([] : List (S60))) (inner := []) (ok := fun _ => True) (okp := fun _ => True) ?hr ?hp (fun _ hk => hk) trivial (Below.refl _ _) (Nat.le_refl _) (by simp) ?_; (case hd => rfl); (case hg => rfl); (case hr => first | (go_simp; done) | (go_simp; rfl)); (case hp => exact (Reps.none _ _)); intro v500 w3 ho4 hb hg_ hnew_; clear hg_ hnew_; (first | rw [← Ny499.out] at ho4 | (simp only [Int.reduceToNat] at ho4; rw [← Ny499.out] at ho4)); have n0_ := Aside0.mk (Kd.R_lower ho4 (below_size (by repeat (first | (with_reducible first | exact HB.out | apply below_alloc | apply pw_below_drewN | apply below_drew1) | exact HB.out)))); have n1_ := Aside0.mk (below_step (by repeat (first | (with_reducible first | exact HB.out | apply below_alloc | apply pw_below_drewN | apply below_drew1) | exact HB.out)) hb); clear HB; have HO501 := n0_; have HB := n1_; clear n0_ n1_; clear hb ho4) | ((with_reducible refine gate_builtin (b := .append) (xs := #[.tmp 5, .tmp 6]) rfl ?_); at_builtin; refine Kd.R_append_rows k60 (w0 := w) w.heap.size rfl (.tmp 5) (.tmp 6) 34 60 (.agg #[(.int .i64 0), (.int .i64 0), (.int .i64 0), (.int .i64 0), (.int .i64 0), (.int .i64 0), (.int .i64 0), (.int .i64 0)]) 64 rfl Tryz.underlying34 info60 rfl (by decide) (by omega) v500 y499 l0 _ _ _ (fun _ => True) (fun _ => False) rfl rfl ?aO ?aR (fun _ _ h => h) (fun _ h => h.elim) ?aF ?aB ?aS ?aL ?_; (case aR => repeat (first | exact (Kd.C_below HR0.out HB.out) | (with_reducible refine Kd.C_alloc ?_ _) | (with_reducible refine Kd.C_drewN ?_ _) | (with_reducible refine Kd.C_drew ?_))); (case aB => exact (by repeat (first | (with_reducible first | exact HB.out | apply below_alloc | apply pw_below_drewN | apply below_drew1) | exact HB.out))); (case aF => exact (fun _ _ => trivial)); (case aO => exact (by (with_reducible repeat (first | apply Kd.R_alloc | apply Kd.R_drewN | apply Kd.R_drew)); exact HO501.out)); (case aS => exact (below_size (by repeat (first | (with_reducible first | exact HB.out | apply below_alloc | apply pw_below_drewN | apply below_drew1) | exact HB.out)))); (case aL => have := LMc2.out; omega); intro v503 w5 ho hb hg hat; rw [← Ny502.out] at ho; have n0_ := Aside0.mk (hb); have n1_ := Aside0.mk (ho); clear HB; clear HO501; have HB := n0_; have HO504 := n1_; clear n0_ n1_; clear ho hb hg hat))
      go_ret
      exact ⟨_, by first | rfl | (simp [errW_none, errW_some] <;> rfl) | (simp [*, errW_none, errW_some] <;> rfl), by (with_reducible repeat (first | apply Kd.R_alloc | apply Kd.R_drewN | apply Kd.R_drew)); exact HO504.out, by repeat (first | (with_reducible first | exact HB.out | apply below_alloc | apply pw_below_drewN | apply below_drew1) | exact HB.out)⟩
  · rw [if_neg c2] at H
    exact absurd H (by simp)
theorem impl_tradeAt.clo (B : Nat) (a : Int) (x : S60) (W : World) (h0 : W.cell? ⟨B, 0, none⟩ = some (.int .i64 a)) :
    Calls Tryz.prog 143 #[.agg #[.int .i64 x.f0, .int .i64 x.f1, .int .i64 x.f2, .int .i64 x.f3, .int .i64 x.f4, .int .i64 x.f5, .int .i64 x.f6, .int .i64 x.f7], .pointer (some ⟨B, 0, none⟩)] W fun e W' => e = .returned (.bool (x.f0 == a)) ∧ Below W.heap.size W W' := by
  have HB := Aside0.mk (Below.refl W.heap.size W)
  have g0 := Lib.cell?_alloc_some (.cells #[.int .i64 x.f0, .int .i64 x.f1, .int .i64 x.f2, .int .i64 x.f3, .int .i64 x.f4, .int .i64 x.f5, .int .i64 x.f6, .int .i64 x.f7] 60 (0, 0)) h0
  clear h0
  go_enter Tryz.func143, Tryz.ntmps143
  go_wp2
  all_goals
    go_ret
    exact ⟨by first | rfl | (simp; done) | (simp [*]; done), below_alloc HB.out _⟩
theorem impl_tradeAt.pred {B : Nat} {a : Int} {w : World} (h0 : w.cell? ⟨B, 0, none⟩ = some (.int .i64 a)) :
    X0.FnB Tryz.prog 143 #[.pointer (some ⟨B, 0, none⟩)] w (fun x : S60 => .agg #[.int .i64 x.f0, .int .i64 x.f1, .int .i64 x.f2, .int .i64 x.f3, .int .i64 x.f4, .int .i64 x.f5, .int .i64 x.f6, .int .i64 x.f7]) (fun x => x.f0 == a) :=
  ⟨_, Tryz.func143, by kernel_rfl, rfl, fun x W hW => impl_tradeAt.clo B a x W ((hW.cell (World.block_lt_of_cell? w _ h0)).trans h0)⟩
theorem impl_tradeAt.calls (A0_0 : Option Addr) (c0_0 : Nat) (l0_0 : List (S80)) (A0_1 : Option Addr) (c0_1 : Nat) (l0_1 : List (S84)) (A0_2 : Option Addr) (c0_2 : Nat) (l0_2 : List (S106)) (A0_3 : Option Addr) (c0_3 : Nat) (l0_3 : List (S110)) (A0_4 : Option Addr) (c0_4 : Nat) (l0_4 : List (S60)) (a0_5 : Int) (a1 : Int) (r : Int) (w : World) (hr0_0 : Kd.C k80 w A0_0 l0_0.length l0_0) (hc0_0 : l0_0.length ≤ c0_0) (hr0_1 : Kd.C k84 w A0_1 l0_1.length l0_1) (hc0_1 : l0_1.length ≤ c0_1) (hr0_2 : Kd.C k106 w A0_2 l0_2.length l0_2) (hc0_2 : l0_2.length ≤ c0_2) (hr0_3 : Kd.C k110 w A0_3 l0_3.length l0_3) (hc0_3 : l0_3.length ≤ c0_3) (hr0_4 : Kd.C k60 w A0_4 l0_4.length l0_4) (hc0_4 : l0_4.length ≤ c0_4) (h : impl_tradeAt.f l0_0 l0_1 l0_2 l0_3 l0_4 a0_5 a1 = some r) :
    Calls Tryz.prog 102 #[.agg #[.slice A0_0 l0_0.length c0_0, .slice A0_1 l0_1.length c0_1, .slice A0_2 l0_2.length c0_2, .slice A0_3 l0_3.length c0_3, .slice A0_4 l0_4.length c0_4, .int .i64 a0_5], .int .i64 a1] w fun e w' => e = .returned (.int .i64 r) ∧ Below w.heap.size w w' := by
  obtain rfl := Option.some.inj h
  have HB := Aside0.mk (Below.refl w.heap.size w)
  have HR4 := Aside0.mk hr0_4
  have HC4 := Aside0.mk hc0_4
  clear hr0_0 hc0_0 hr0_1 hc0_1 hr0_2 hc0_2 hr0_3 hc0_3 hr0_4 hc0_4 h
  go_enter Tryz.func102, Tryz.ntmps102
  go_wp2_with (first | ((with_reducible refine gate_dst (N := 2) rfl ?_); refine box_event ?hg (N := 2) ?hd (cs := #[.slice A0_0 l0_0.length c0_0, .slice A0_1 l0_1.length c0_1, .slice A0_2 l0_2.length c0_2, .slice A0_3 l0_3.length c0_3, .slice A0_4 l0_4.length c0_4, .int .i64 a0_5]) (t := 36) ?hr ?_; (case hd => rfl); (case hg => rfl); (case hr => first | (go_simp; done) | (go_simp; rfl)); intro gb hg w5 hbox hb; have n0_ := Aside0.mk (below_step HB.out hb); clear HB; have HB := n0_; have BK := Aside0.mk hbox; clear n0_ hb hbox hg) | ((with_reducible refine gate_dst (N := 3) rfl ?_); refine box_event ?hg (N := 3) ?hd (cs := #[.int .i64 a1]) (t := 3) ?hr ?_; (case hd => rfl); (case hg => rfl); (case hr => first | (go_simp; done) | (go_simp; rfl)); intro gc hg w6 hbox hb; have n0_ := Aside0.mk (below_step HB.out hb); have n1_ := Aside0.mk (blk_below BK.out hb); clear HB BK; have HB := n0_; have BK := n1_; have BC := Aside0.mk hbox; clear n0_ n1_ hb hbox hg; have hc4_w6 : w6.cell? ⟨gb, 4, none⟩ = some (.slice A0_4 l0_4.length c0_4) := (blk_cell BK.out 4).trans rfl) | ((with_reducible refine gate_callee (f := 142) rfl ?_); (try (refine gate_guard (by rfl) ?_; dsimp only)); refine goesL_ (some 8) rfl rfl Tryz.func142 (by kernel_rfl) rfl #[.slice A0_4 l0_4.length c0_4, .func (.func 143) #[] #[.pointer (some ⟨gc, 0, none⟩)]] rfl (by (try simp only [List.map_toArray, List.map_cons, List.map_nil]); first | done | rfl) ?_; (with_reducible refine (IndexFunc_st60.calls _ _ l0_4 _ #[.pointer (some ⟨gc, 0, none⟩)] (fun x => x.f0 == a1) _ (Kd.C_below HR4.out HB.out) HC4.out (impl_tradeAt.pred ((blk_cell BC.out 0).trans rfl))).mono ?_); rintro e w7 ⟨rfl, hb⟩; refine ⟨_, rfl, ?_⟩; have n0_ := Aside0.mk (below_step HB.out hb); clear HB; have HB := n0_; clear n0_ hb))
  go_ret
  exact ⟨by first | rfl | (simp; done) | (simp [*]; done), HB.out⟩
end Go.Proofs.YtmfgajbkcnlkcaaGreat.P
namespace Go.Proofs.YtmfgajbkcnlkcaaGreat.AI
open Go Go.RowKit Go.Proofs.YtmfgajbkcnlkcaaGreatW.PrintWords Go.Proofs.YtmfgajbkcnlkcaaGreat.P
set_option linter.unusedVariables false
set_option linter.all false
set_option maxRecDepth 100000
set_option maxHeartbeats 4000000
noncomputable def o97 (l0 : List S80) (r : (List (S80))) : Out Rw := ⟨[.c (.rw 1)], [.rows 0 (.e80 l0), .rows 2 (.e80 r)]⟩
noncomputable def Q97 : Mean Rw := fun k a h Z K => match a, h with
  | [.w (.c (.rw 0))], [.rows 0 (.e80 l0)] => (impl_Account_97.f l0).bind fun r => K (o97 l0 r)
  | _, _ => none
noncomputable def q97 : Cal Rw := ⟨97, false, Q97⟩
theorem d97 : Sound Tryz.prog q97 := sound_of ⟨_, Tryz.func97, by kernel_rfl, by kernel_rfl⟩ fun k a h Z K z e => by
  unfold Q97 at e; split at e
  · rename_i l0
    obtain ⟨r, h, hK⟩ := Option.bind_eq_some_iff.1 e
    refine ⟨_, hK, ?_⟩
    refine good_new (by simp [isRo]) fun w g hA => ?_
    obtain ⟨A0, c0, e0, hc0, hr0⟩ := ro80.1 (hA.blk 0 _ rfl)
    have hv : (List.map (concV g) [.w (.c (.rw 0))]).toArray = #[.slice A0 l0.length c0] := by simp [concV, concW, conc, Sc.v, e0]
    rw [hv]
    exact (impl_Account_97.calls A0 c0 l0 r w hr0 hc0 h).mono fun e w' he => he.elim fun v he => ⟨v, he.1, nw80 he.2.1, he.2.2⟩
  · cases e
noncomputable def o98 (l0 : List S84) (r : (List (S84))) : Out Rw := ⟨[.c (.rw 1)], [.rows 0 (.e84 l0), .rows 2 (.e84 r)]⟩
noncomputable def Q98 : Mean Rw := fun k a h Z K => match a, h with
  | [.w (.c (.rw 0))], [.rows 0 (.e84 l0)] => (impl_Instr_98.f l0).bind fun r => K (o98 l0 r)
  | _, _ => none
noncomputable def q98 : Cal Rw := ⟨98, false, Q98⟩
theorem d98 : Sound Tryz.prog q98 := sound_of ⟨_, Tryz.func98, by kernel_rfl, by kernel_rfl⟩ fun k a h Z K z e => by
  unfold Q98 at e; split at e
  · rename_i l0
    obtain ⟨r, h, hK⟩ := Option.bind_eq_some_iff.1 e
    refine ⟨_, hK, ?_⟩
    refine good_new (by simp [isRo]) fun w g hA => ?_
    obtain ⟨A0, c0, e0, hc0, hr0⟩ := ro84.1 (hA.blk 0 _ rfl)
    have hv : (List.map (concV g) [.w (.c (.rw 0))]).toArray = #[.slice A0 l0.length c0] := by simp [concV, concW, conc, Sc.v, e0]
    rw [hv]
    exact (impl_Instr_98.calls A0 c0 l0 r w hr0 hc0 h).mono fun e w' he => he.elim fun v he => ⟨v, he.1, nw84 he.2.1, he.2.2⟩
  · cases e
noncomputable def o99 (l0 : List S106) (r : (List (S106))) : Out Rw := ⟨[.c (.rw 1)], [.rows 0 (.e106 l0), .rows 2 (.e106 r)]⟩
noncomputable def Q99 : Mean Rw := fun k a h Z K => match a, h with
  | [.w (.c (.rw 0))], [.rows 0 (.e106 l0)] => (impl_Bal_99.f l0).bind fun r => K (o99 l0 r)
  | _, _ => none
noncomputable def q99 : Cal Rw := ⟨99, false, Q99⟩
theorem d99 : Sound Tryz.prog q99 := sound_of ⟨_, Tryz.func99, by kernel_rfl, by kernel_rfl⟩ fun k a h Z K z e => by
  unfold Q99 at e; split at e
  · rename_i l0
    obtain ⟨r, h, hK⟩ := Option.bind_eq_some_iff.1 e
    refine ⟨_, hK, ?_⟩
    refine good_new (by simp [isRo]) fun w g hA => ?_
    obtain ⟨A0, c0, e0, hc0, hr0⟩ := ro106.1 (hA.blk 0 _ rfl)
    have hv : (List.map (concV g) [.w (.c (.rw 0))]).toArray = #[.slice A0 l0.length c0] := by simp [concV, concW, conc, Sc.v, e0]
    rw [hv]
    exact (impl_Bal_99.calls A0 c0 l0 r w hr0 hc0 h).mono fun e w' he => he.elim fun v he => ⟨v, he.1, nw106 he.2.1, he.2.2⟩
  · cases e
noncomputable def o100 (l0 : List S110) (r : (List (S110))) : Out Rw := ⟨[.c (.rw 1)], [.rows 0 (.e110 l0), .rows 2 (.e110 r)]⟩
noncomputable def Q100 : Mean Rw := fun k a h Z K => match a, h with
  | [.w (.c (.rw 0))], [.rows 0 (.e110 l0)] => (impl_Lot_100.f l0).bind fun r => K (o100 l0 r)
  | _, _ => none
noncomputable def q100 : Cal Rw := ⟨100, false, Q100⟩
theorem d100 : Sound Tryz.prog q100 := sound_of ⟨_, Tryz.func100, by kernel_rfl, by kernel_rfl⟩ fun k a h Z K z e => by
  unfold Q100 at e; split at e
  · rename_i l0
    obtain ⟨r, h, hK⟩ := Option.bind_eq_some_iff.1 e
    refine ⟨_, hK, ?_⟩
    refine good_new (by simp [isRo]) fun w g hA => ?_
    obtain ⟨A0, c0, e0, hc0, hr0⟩ := ro110.1 (hA.blk 0 _ rfl)
    have hv : (List.map (concV g) [.w (.c (.rw 0))]).toArray = #[.slice A0 l0.length c0] := by simp [concV, concW, conc, Sc.v, e0]
    rw [hv]
    exact (impl_Lot_100.calls A0 c0 l0 r w hr0 hc0 h).mono fun e w' he => he.elim fun v he => ⟨v, he.1, nw110 he.2.1, he.2.2⟩
  · cases e
noncomputable def o101 (l0 : List S60) (r : (List (S60))) : Out Rw := ⟨[.c (.rw 1)], [.rows 0 (.e60 l0), .rows 2 (.e60 r)]⟩
noncomputable def Q101 : Mean Rw := fun k a h Z K => match a, h with
  | [.w (.c (.rw 0))], [.rows 0 (.e60 l0)] => (impl_Trade.f l0).bind fun r => K (o101 l0 r)
  | _, _ => none
noncomputable def q101 : Cal Rw := ⟨101, false, Q101⟩
theorem d101 : Sound Tryz.prog q101 := sound_of ⟨_, Tryz.func101, by kernel_rfl, by kernel_rfl⟩ fun k a h Z K z e => by
  unfold Q101 at e; split at e
  · rename_i l0
    obtain ⟨r, h, hK⟩ := Option.bind_eq_some_iff.1 e
    refine ⟨_, hK, ?_⟩
    refine good_new (by simp [isRo]) fun w g hA => ?_
    obtain ⟨A0, c0, e0, hc0, hr0⟩ := ro60.1 (hA.blk 0 _ rfl)
    have hv : (List.map (concV g) [.w (.c (.rw 0))]).toArray = #[.slice A0 l0.length c0] := by simp [concV, concW, conc, Sc.v, e0]
    rw [hv]
    exact (impl_Trade.calls A0 c0 l0 r w hr0 hc0 h).mono fun e w' he => he.elim fun v he => ⟨v, he.1, nw60 he.2.1, he.2.2⟩
  · cases e
noncomputable def o137 (l0 : List S110) (r : List (S110)) : Out Rw := ⟨[.c (.rw 1)], [.rows 0 (.e110 l0), .rows 2 (.e110 r)]⟩
noncomputable def Q137 : Mean Rw := fun k a h Z K => match a, h with
  | [.w (.c (.rw 0)), .w (.c (.sc (.i .i64 a1))), .w (.c (.sc (.i .i64 a2)))], [.rows 0 (.e110 l0)] => (impl_lotsOf.f l0 a1 a2).bind fun r => K (o137 l0 r)
  | _, _ => none
noncomputable def q137 : Cal Rw := ⟨137, false, Q137⟩
theorem d137 : Sound Tryz.prog q137 := sound_of ⟨_, Tryz.func137, by kernel_rfl, by kernel_rfl⟩ fun k a h Z K z e => by
  unfold Q137 at e; split at e
  · rename_i a1 a2 l0
    obtain ⟨r, h, hK⟩ := Option.bind_eq_some_iff.1 e
    refine ⟨_, hK, ?_⟩
    refine good_new (by simp [isRo]) fun w g hA => ?_
    obtain ⟨A0, c0, e0, hc0, hr0⟩ := ro110.1 (hA.blk 0 _ rfl)
    have hv : (List.map (concV g) [.w (.c (.rw 0)), .w (.c (.sc (.i .i64 a1))), .w (.c (.sc (.i .i64 a2)))]).toArray = #[.slice A0 l0.length c0, .int .i64 a1, .int .i64 a2] := by simp [concV, concW, conc, Sc.v, e0]
    rw [hv]
    exact (impl_lotsOf.calls A0 c0 l0 a1 a2 r w hr0 hc0 h).mono fun e w' he => he.elim fun v he => ⟨v, he.1, nw110 he.2.1, he.2.2⟩
  · cases e
noncomputable def o92 (l0 : List S110) (r : Bool) : Out Rw := ⟨[.c (.sc (.b r))], [.rows 0 (.e110 l0)]⟩
noncomputable def Q92 : Mean Rw := fun k a h Z K => match a, h with
  | [.w (.c (.rw 0))], [.rows 0 (.e110 l0)] => (impl_LotsOk.f l0).bind fun r => K (o92 l0 r)
  | _, _ => none
noncomputable def q92 : Cal Rw := ⟨92, false, Q92⟩
theorem d92 : Sound Tryz.prog q92 := sound_of ⟨_, Tryz.func92, by kernel_rfl, by kernel_rfl⟩ fun k a h Z K z e => by
  unfold Q92 at e; split at e
  · rename_i l0
    obtain ⟨r, h, hK⟩ := Option.bind_eq_some_iff.1 e
    refine ⟨_, hK, ?_⟩
    refine good_ro (by simp [isRo]) (by simp [idsW, idsC]) fun w g hA => ?_
    obtain ⟨A0, c0, e0, hc0, hr0⟩ := ro110.1 (hA.blk 0 _ rfl)
    have hv : (List.map (concV g) [.w (.c (.rw 0))]).toArray = #[.slice A0 l0.length c0] := by simp [concV, concW, conc, Sc.v, e0]
    rw [hv]
    exact (impl_LotsOk.calls A0 c0 l0 r w hr0 hc0 h).mono fun e w' he => ⟨he.1, he.2⟩
  · cases e
noncomputable def o96 (l0_0 : List S80) (l0_1 : List S84) (l0_2 : List S106) (l0_3 : List S110) (l0_4 : List S60) (r : Bool) : Out Rw := ⟨[.c (.sc (.b r))], [.rows 0 (.e80 l0_0), .rows 0 (.e84 l0_1), .rows 0 (.e106 l0_2), .rows 0 (.e110 l0_3), .rows 0 (.e60 l0_4)]⟩
noncomputable def Q96 : Mean Rw := fun k a h Z K => match a, h with
  | [.w (.ag [.rw 0, .rw 1, .rw 2, .rw 3, .rw 4, .sc (.i .i64 a0_5)])], [.rows 0 (.e80 l0_0), .rows 0 (.e84 l0_1), .rows 0 (.e106 l0_2), .rows 0 (.e110 l0_3), .rows 0 (.e60 l0_4)] => (impl_tradesRight.f l0_0 l0_1 l0_2 l0_3 l0_4 a0_5).bind fun r => K (o96 l0_0 l0_1 l0_2 l0_3 l0_4 r)
  | _, _ => none
noncomputable def q96 : Cal Rw := ⟨96, false, Q96⟩
theorem d96 : Sound Tryz.prog q96 := sound_of ⟨_, Tryz.func96, by kernel_rfl, by kernel_rfl⟩ fun k a h Z K z e => by
  unfold Q96 at e; split at e
  · rename_i a0_5 l0_0 l0_1 l0_2 l0_3 l0_4
    obtain ⟨r, h, hK⟩ := Option.bind_eq_some_iff.1 e
    refine ⟨_, hK, ?_⟩
    refine good_ro (by simp [isRo]) (by simp [idsW, idsC]) fun w g hA => ?_
    obtain ⟨A0_0, c0_0, e0_0, hc0_0, hr0_0⟩ := ro80.1 (hA.blk 0 _ rfl)
    obtain ⟨A0_1, c0_1, e0_1, hc0_1, hr0_1⟩ := ro84.1 (hA.blk 1 _ rfl)
    obtain ⟨A0_2, c0_2, e0_2, hc0_2, hr0_2⟩ := ro106.1 (hA.blk 2 _ rfl)
    obtain ⟨A0_3, c0_3, e0_3, hc0_3, hr0_3⟩ := ro110.1 (hA.blk 3 _ rfl)
    obtain ⟨A0_4, c0_4, e0_4, hc0_4, hr0_4⟩ := ro60.1 (hA.blk 4 _ rfl)
    have hv : (List.map (concV g) [.w (.ag [.rw 0, .rw 1, .rw 2, .rw 3, .rw 4, .sc (.i .i64 a0_5)])]).toArray = #[.agg #[.slice A0_0 l0_0.length c0_0, .slice A0_1 l0_1.length c0_1, .slice A0_2 l0_2.length c0_2, .slice A0_3 l0_3.length c0_3, .slice A0_4 l0_4.length c0_4, .int .i64 a0_5]] := by simp [concV, concW, conc, Sc.v, e0_0, e0_1, e0_2, e0_3, e0_4]
    rw [hv]
    exact (impl_tradesRight.calls A0_0 c0_0 l0_0 A0_1 c0_1 l0_1 A0_2 c0_2 l0_2 A0_3 c0_3 l0_3 A0_4 c0_4 l0_4 a0_5 r w hr0_0 hc0_0 hr0_1 hc0_1 hr0_2 hc0_2 hr0_3 hc0_3 hr0_4 hc0_4 h).mono fun e w' he => ⟨he.1, he.2⟩
  · cases e
noncomputable def o102 (l0_0 : List S80) (l0_1 : List S84) (l0_2 : List S106) (l0_3 : List S110) (l0_4 : List S60) (r : Int) : Out Rw := ⟨[.c (.sc (.i .i64 r))], [.rows 0 (.e80 l0_0), .rows 0 (.e84 l0_1), .rows 0 (.e106 l0_2), .rows 0 (.e110 l0_3), .rows 0 (.e60 l0_4)]⟩
noncomputable def Q102 : Mean Rw := fun k a h Z K => match a, h with
  | [.w (.ag [.rw 0, .rw 1, .rw 2, .rw 3, .rw 4, .sc (.i .i64 a0_5)]), .w (.c (.sc (.i .i64 a1)))], [.rows 0 (.e80 l0_0), .rows 0 (.e84 l0_1), .rows 0 (.e106 l0_2), .rows 0 (.e110 l0_3), .rows 0 (.e60 l0_4)] => (impl_tradeAt.f l0_0 l0_1 l0_2 l0_3 l0_4 a0_5 a1).bind fun r => K (o102 l0_0 l0_1 l0_2 l0_3 l0_4 r)
  | _, _ => none
noncomputable def q102 : Cal Rw := ⟨102, false, Q102⟩
theorem d102 : Sound Tryz.prog q102 := sound_of ⟨_, Tryz.func102, by kernel_rfl, by kernel_rfl⟩ fun k a h Z K z e => by
  unfold Q102 at e; split at e
  · rename_i a0_5 a1 l0_0 l0_1 l0_2 l0_3 l0_4
    obtain ⟨r, h, hK⟩ := Option.bind_eq_some_iff.1 e
    refine ⟨_, hK, ?_⟩
    refine good_ro (by simp [isRo]) (by simp [idsW, idsC]) fun w g hA => ?_
    obtain ⟨A0_0, c0_0, e0_0, hc0_0, hr0_0⟩ := ro80.1 (hA.blk 0 _ rfl)
    obtain ⟨A0_1, c0_1, e0_1, hc0_1, hr0_1⟩ := ro84.1 (hA.blk 1 _ rfl)
    obtain ⟨A0_2, c0_2, e0_2, hc0_2, hr0_2⟩ := ro106.1 (hA.blk 2 _ rfl)
    obtain ⟨A0_3, c0_3, e0_3, hc0_3, hr0_3⟩ := ro110.1 (hA.blk 3 _ rfl)
    obtain ⟨A0_4, c0_4, e0_4, hc0_4, hr0_4⟩ := ro60.1 (hA.blk 4 _ rfl)
    have hv : (List.map (concV g) [.w (.ag [.rw 0, .rw 1, .rw 2, .rw 3, .rw 4, .sc (.i .i64 a0_5)]), .w (.c (.sc (.i .i64 a1)))]).toArray = #[.agg #[.slice A0_0 l0_0.length c0_0, .slice A0_1 l0_1.length c0_1, .slice A0_2 l0_2.length c0_2, .slice A0_3 l0_3.length c0_3, .slice A0_4 l0_4.length c0_4, .int .i64 a0_5], .int .i64 a1] := by simp [concV, concW, conc, Sc.v, e0_0, e0_1, e0_2, e0_3, e0_4]
    rw [hv]
    exact (impl_tradeAt.calls A0_0 c0_0 l0_0 A0_1 c0_1 l0_1 A0_2 c0_2 l0_2 A0_3 c0_3 l0_3 A0_4 c0_4 l0_4 a0_5 a1 r w hr0_0 hc0_0 hr0_1 hc0_1 hr0_2 hc0_2 hr0_3 hc0_3 hr0_4 hc0_4 h).mono fun e w' he => ⟨he.1, he.2⟩
  · cases e
end Go.Proofs.YtmfgajbkcnlkcaaGreat.AI
namespace Go.Proofs.YtmfgajbkcnlkcaaGreat.AI
open Go Go.RowKit Go.Proofs.YtmfgajbkcnlkcaaGreatW.PrintWords Go.Proofs.YtmfgajbkcnlkcaaGreat.P
set_option linter.unusedVariables false
set_option linter.all false
set_option maxRecDepth 100000
set_option maxHeartbeats 4000000
noncomputable def o138 (l0 : List S106) (r : Int) : Out Rw := ⟨[.c (.sc (.i .i64 r))], [.rows 0 (.e106 l0)]⟩
noncomputable def Q138 : Mean Rw := fun k a h Z K => match a, h with
  | [.w (.c (.rw 0)), .w (.c (.sc (.i .i64 a1)))], [.rows 0 (.e106 l0)] => (impl_balsSum.f k l0 a1).bind fun r => K (o138 l0 r)
  | _, _ => none
noncomputable def q138 : Cal Rw := ⟨138, false, Q138⟩
noncomputable def O138 : List (Cal Rw) := []
noncomputable def C138_0 : Nat → St Rw → Option (Out Rw) := fun k st => match st with
  | ⟨24, 1, 1, [(1, .w (.c (.sc (.i .i64 x1)))), (5, .w (.c (.sc (.i .i64 x5)))), (8, .w (.c (.rw 0))), (9, .w (.c (.sc (.i .i64 x9)))), (10, .w (.c (.sc (.i .i64 x10))))], [(0, .rows 0 (.e106 l0))]⟩ => (impl_balsSum.l0 k x1 x5 l0 x9 x10).bind fun r => some (o138 l0 r)
  | _ => none
noncomputable def K138 : List (Cut Rw) := [⟨[false, true, false, true, true], [1, 5, 8, 9, 10], C138_0⟩]
theorem h138_0 (k : Nat) (st : St Rw) (out : Out Rw) (h : C138_0 (k + 1) st = some out) : sg Tryz.prog O138 K138 Tryz.f138 k [false, true, false, true, true] st = some out := by
  unfold C138_0 at h; split at h
  · rename_i x1 x5 x9 x10 l0
    exact Lo.of (b := (if x10 < x9 then (if 0 ≤ x10 then (if x10 < (l0.length : Int) then (if (rd_T106 l0 x10).f1 = x1 then ((impl_balsSum.l0 k x1 (RowKit.wrap64 (x5 + (rd_T106 l0 x10).f2)) l0 x9 (RowKit.wrap64 (x10 + 1))).bind fun r => some (o138 l0 r)) else ((impl_balsSum.l0 k x1 x5 l0 x9 (RowKit.wrap64 (x10 + 1))).bind fun r => some (o138 l0 r))) else none) else none) else (some (o138 l0 x5)))) (by kernel_rfl) (by rw [impl_balsSum.l0]; exact lo_) _ h
  · cases h
theorem d138 : Sound Tryz.prog q138 := fn_d (O := O138) (cs := K138) nil_ mixed Tryz.func138 (cons_ (fun st => by show C138_0 0 st = none; unfold C138_0; split <;> rfl) nil_) (cons_ h138_0 nil_) fun k a h Z K z e => by
  unfold Q138 at e; split at e
  · rename_i a1 l0
    exact ent e (Lo.of (b := ((impl_balsSum.l0 k a1 0 l0 ((l0.length : Int)) 0).bind fun r => some (o138 l0 r))) (by kernel_rfl) (by unfold impl_balsSum.f; exact lo_))
  · cases e
noncomputable def o94 (l0_0 : List S80) (l0_1 : List S84) (l0_2 : List S106) (l0_3 : List S110) (l0_4 : List S60) (r : Bool) : Out Rw := ⟨[.c (.sc (.b r))], [.rows 0 (.e80 l0_0), .rows 0 (.e84 l0_1), .rows 0 (.e106 l0_2), .rows 0 (.e110 l0_3), .rows 0 (.e60 l0_4)]⟩
noncomputable def Q94 : Mean Rw := fun k a h Z K => match a, h with
  | [.w (.ag [.rw 0, .rw 1, .rw 2, .rw 3, .rw 4, .sc (.i .i64 a0_5)])], [.rows 0 (.e80 l0_0), .rows 0 (.e84 l0_1), .rows 0 (.e106 l0_2), .rows 0 (.e110 l0_3), .rows 0 (.e60 l0_4)] => (impl_balsRight.f k l0_0 l0_1 l0_2 l0_3 l0_4 a0_5).bind fun r => K (o94 l0_0 l0_1 l0_2 l0_3 l0_4 r)
  | _, _ => none
noncomputable def q94 : Cal Rw := ⟨94, false, Q94⟩
noncomputable def O94 : List (Cal Rw) := [q108, q110, q138]
noncomputable def C94_0 : Nat → St Rw → Option (Out Rw) := fun k st => match st with
  | ⟨46, 5, 6, [(1, .pt 5 0), (7, .w (.c (.rw 2))), (8, .w (.c (.sc (.i .i64 x8)))), (9, .w (.c (.sc (.i .i64 x9))))], [(0, .rows 0 (.e80 l0_0)), (1, .rows 0 (.e84 l0_1)), (2, .rows 0 (.e106 l0_2)), (3, .rows 0 (.e110 l0_3)), (4, .rows 0 (.e60 l0_4)), (5, .box 36 [.rw 0, .rw 1, .rw 2, .rw 3, .rw 4, .sc (.i .i64 b5_5)])]⟩ => (impl_balsRight.l0 k l0_2 x8 x9 l0_0 l0_1 l0_2 l0_3 l0_4 b5_5).bind fun r => some (o94 l0_0 l0_1 l0_2 l0_3 l0_4 r)
  | _ => none
noncomputable def K94 : List (Cut Rw) := [⟨[false, true, false, true], [1, 7, 8, 9], C94_0⟩]
theorem h94_0 (k : Nat) (st : St Rw) (out : Out Rw) (h : C94_0 (k + 1) st = some out) : sg Tryz.prog O94 K94 Tryz.f94 k [false, true, false, true] st = some out := by
  unfold C94_0 at h; split at h
  · rename_i x8 x9 l0_0 l0_1 l0_2 l0_3 l0_4 b5_5
    exact Lo.of (b := (if x9 < x8 then (if 0 ≤ x9 then (if x9 < (l0_2.length : Int) then ((impl_accountKind.f k l0_0 (rd_T106 l0_2 x9).f0).bind fun r9 => (if r9 = 0 then (some (o94 l0_0 l0_1 l0_2 l0_3 l0_4 false)) else ((impl_instrKind.f k l0_1 (rd_T106 l0_2 x9).f1).bind fun r10 => (if r10 = 0 then (some (o94 l0_0 l0_1 l0_2 l0_3 l0_4 false)) else (if r9 = 1 then (if (rd_T106 l0_2 x9).f2 < 0 then (some (o94 l0_0 l0_1 l0_2 l0_3 l0_4 false)) else ((impl_balsSum.f k l0_2 (rd_T106 l0_2 x9).f1).bind fun r11 => (if r11 = 0 then ((impl_balsRight.l0 k l0_2 x8 (RowKit.wrap64 (x9 + 1)) l0_0 l0_1 l0_2 l0_3 l0_4 b5_5).bind fun r => some (o94 l0_0 l0_1 l0_2 l0_3 l0_4 r)) else (some (o94 l0_0 l0_1 l0_2 l0_3 l0_4 false))))) else ((impl_balsSum.f k l0_2 (rd_T106 l0_2 x9).f1).bind fun r11 => (if r11 = 0 then ((impl_balsRight.l0 k l0_2 x8 (RowKit.wrap64 (x9 + 1)) l0_0 l0_1 l0_2 l0_3 l0_4 b5_5).bind fun r => some (o94 l0_0 l0_1 l0_2 l0_3 l0_4 r)) else (some (o94 l0_0 l0_1 l0_2 l0_3 l0_4 false))))))))) else none) else none) else (some (o94 l0_0 l0_1 l0_2 l0_3 l0_4 true)))) (by kernel_rfl) (by rw [impl_balsRight.l0]; exact lo_) _ h
  · cases h
theorem d94 : Sound Tryz.prog q94 := fn_d (O := O94) (cs := K94) (cons_ d108 (cons_ d110 (cons_ d138 nil_))) mixed Tryz.func94 (cons_ (fun st => by show C94_0 0 st = none; unfold C94_0; split <;> rfl) nil_) (cons_ h94_0 nil_) fun k a h Z K z e => by
  unfold Q94 at e; split at e
  · rename_i a0_5 l0_0 l0_1 l0_2 l0_3 l0_4
    exact ent e (Lo.of (b := ((impl_balsRight.l0 k l0_2 ((l0_2.length : Int)) 0 l0_0 l0_1 l0_2 l0_3 l0_4 a0_5).bind fun r => some (o94 l0_0 l0_1 l0_2 l0_3 l0_4 r))) (by kernel_rfl) (by unfold impl_balsRight.f; exact lo_))
  · cases e
noncomputable def o172 (l0 : List S106) (r : Int × Bool) : Out Rw := ⟨[.c (.sc (.i .i64 r.1)), .c (.sc (.b r.2))], [.rows 0 (.e106 l0)]⟩
noncomputable def Q172 : Mean Rw := fun k a h Z K => match a, h with
  | [.w (.c (.rw 0)), .w (.c (.sc (.i .i64 a1))), .w (.c (.sc (.i .i64 a2)))], [.rows 0 (.e106 l0)] => (impl_balAt.f k l0 a1 a2).bind fun r => K (o172 l0 r)
  | _, _ => none
noncomputable def q172 : Cal Rw := ⟨172, false, Q172⟩
noncomputable def O172 : List (Cal Rw) := [q131]
noncomputable def C172_0 : Nat → St Rw → Option (Out Rw) := fun k st => match st with
  | ⟨33, 1, 1, [(0, .w (.c (.rw 0))), (1, .w (.c (.sc (.i .i64 x1)))), (2, .w (.c (.sc (.i .i64 x2)))), (11, .w (.c (.rw 0))), (12, .w (.c (.sc (.i .i64 x12)))), (13, .w (.c (.sc (.i .i64 x13))))], [(0, .rows 0 (.e106 l0))]⟩ => (impl_balAt.l0 k l0 x1 x2 l0 x12 x13).bind fun r => some (o172 l0 r)
  | _ => none
noncomputable def K172 : List (Cut Rw) := [⟨[false, true, false, true], [0, 1, 2, 11, 12, 13], C172_0⟩]
theorem h172_0 (k : Nat) (st : St Rw) (out : Out Rw) (h : C172_0 (k + 1) st = some out) : sg Tryz.prog O172 K172 Tryz.f172 k [false, true, false, true] st = some out := by
  unfold C172_0 at h; split at h
  · rename_i x1 x2 x12 x13 l0
    exact Lo.of (b := (if x13 < x12 then (if 0 ≤ x13 then (if x13 < (l0.length : Int) then ((impl_byBoth.f k (rd_T106 l0 x13).f0 (rd_T106 l0 x13).f1 x1 x2).bind fun r6 => (if r6 ≥ 0 then (some (o172 l0 (x13, decide (r6 = 0)))) else ((impl_balAt.l0 k l0 x1 x2 l0 x12 (RowKit.wrap64 (x13 + 1))).bind fun r => some (o172 l0 r)))) else none) else none) else (some (o172 l0 ((l0.length : Int), false))))) (by kernel_rfl) (by rw [impl_balAt.l0]; exact lo_) _ h
  · cases h
theorem d172 : Sound Tryz.prog q172 := fn_d (O := O172) (cs := K172) (cons_ d131 nil_) mixed Tryz.func172 (cons_ (fun st => by show C172_0 0 st = none; unfold C172_0; split <;> rfl) nil_) (cons_ h172_0 nil_) fun k a h Z K z e => by
  unfold Q172 at e; split at e
  · rename_i a1 a2 l0
    exact ent e (Lo.of (b := ((impl_balAt.l0 k l0 a1 a2 l0 ((l0.length : Int)) 0).bind fun r => some (o172 l0 r))) (by kernel_rfl) (by unfold impl_balAt.f; exact lo_))
  · cases e
noncomputable def o139 (l0 : List S106) (r : Int) : Out Rw := ⟨[.c (.sc (.i .i64 r))], [.rows 0 (.e106 l0)]⟩
noncomputable def Q139 : Mean Rw := fun k a h Z K => match a, h with
  | [.w (.c (.rw 0)), .w (.c (.sc (.i .i64 a1))), .w (.c (.sc (.i .i64 a2)))], [.rows 0 (.e106 l0)] => (impl_balOf.f k l0 a1 a2).bind fun r => K (o139 l0 r)
  | _, _ => none
noncomputable def q139 : Cal Rw := ⟨139, false, Q139⟩
noncomputable def O139 : List (Cal Rw) := [q172]
noncomputable def K139 : List (Cut Rw) := []
theorem d139 : Sound Tryz.prog q139 := fn_d (O := O139) (cs := K139) (cons_ d172 nil_) mixed Tryz.func139 nil_ nil_ fun k a h Z K z e => by
  unfold Q139 at e; split at e
  · rename_i a1 a2 l0
    exact ent e (Lo.of (b := ((impl_balAt.f k l0 a1 a2).bind fun r4 => (if r4.2 = true then (if 0 ≤ r4.1 then (if r4.1 < (l0.length : Int) then (some (o139 l0 ((rd_T106 l0 r4.1).f2))) else none) else none) else (some (o139 l0 0))))) (by kernel_rfl) (by unfold impl_balOf.f; exact lo_))
  · cases e
noncomputable def o95 (l0_0 : List S80) (l0_1 : List S84) (l0_2 : List S106) (l0_3 : List S110) (l0_4 : List S60) (r : Bool) : Out Rw := ⟨[.c (.sc (.b r))], [.rows 0 (.e80 l0_0), .rows 0 (.e84 l0_1), .rows 0 (.e106 l0_2), .rows 0 (.e110 l0_3), .rows 0 (.e60 l0_4)]⟩
noncomputable def Q95 : Mean Rw := fun k a h Z K => match a, h with
  | [.w (.ag [.rw 0, .rw 1, .rw 2, .rw 3, .rw 4, .sc (.i .i64 a0_5)])], [.rows 0 (.e80 l0_0), .rows 0 (.e84 l0_1), .rows 0 (.e106 l0_2), .rows 0 (.e110 l0_3), .rows 0 (.e60 l0_4)] => (impl_lotsRight.f k l0_0 l0_1 l0_2 l0_3 l0_4 a0_5).bind fun r => K (o95 l0_0 l0_1 l0_2 l0_3 l0_4 r)
  | _, _ => none
noncomputable def q95 : Cal Rw := ⟨95, false, Q95⟩
noncomputable def O95 : List (Cal Rw) := [q108, q110, q137, q136, q139]
noncomputable def C95_0 : Nat → St Rw → Option (Out Rw) := fun k st => match st with
  | ⟨84, 5, 6, [(1, .pt 5 0), (12, .w (.c (.rw 3))), (13, .w (.c (.sc (.i .i64 x13)))), (14, .w (.c (.sc (.i .i64 x14))))], [(0, .rows 0 (.e80 l0_0)), (1, .rows 0 (.e84 l0_1)), (2, .rows 0 (.e106 l0_2)), (3, .rows 0 (.e110 l0_3)), (4, .rows 0 (.e60 l0_4)), (5, .box 36 [.rw 0, .rw 1, .rw 2, .rw 3, .rw 4, .sc (.i .i64 b5_5)])]⟩ => (impl_lotsRight.l0 k l0_3 x13 x14 l0_0 l0_1 l0_2 l0_3 l0_4 b5_5).bind fun r => some (o95 l0_0 l0_1 l0_2 l0_3 l0_4 r)
  | _ => none
noncomputable def C95_1 : Nat → St Rw → Option (Out Rw) := fun k st => match st with
  | ⟨84, 5, 6, [(1, .pt 5 0), (41, .w (.c (.rw 0))), (42, .w (.c (.sc (.i .i64 x42)))), (43, .w (.c (.sc (.i .i64 x43))))], [(0, .rows 0 (.e80 l0_0)), (1, .rows 0 (.e84 l0_1)), (2, .rows 0 (.e106 l0_2)), (3, .rows 0 (.e110 l0_3)), (4, .rows 0 (.e60 l0_4)), (5, .box 36 [.rw 0, .rw 1, .rw 2, .rw 3, .rw 4, .sc (.i .i64 b5_5)])]⟩ => (impl_lotsRight.l1 k l0_0 x42 x43 l0_0 l0_1 l0_2 l0_3 l0_4 b5_5).bind fun r => some (o95 l0_0 l0_1 l0_2 l0_3 l0_4 r)
  | _ => none
noncomputable def C95_2 : Nat → St Rw → Option (Out Rw) := fun k st => match st with
  | ⟨84, 5, 7, [(1, .pt 5 0), (6, .pt 6 0), (41, .w (.c (.rw 0))), (42, .w (.c (.sc (.i .i64 x42)))), (43, .w (.c (.sc (.i .i64 x43)))), (48, .w (.c (.rw 1))), (49, .w (.c (.sc (.i .i64 x49)))), (50, .w (.c (.sc (.i .i64 x50))))], [(0, .rows 0 (.e80 l0_0)), (1, .rows 0 (.e84 l0_1)), (2, .rows 0 (.e106 l0_2)), (3, .rows 0 (.e110 l0_3)), (4, .rows 0 (.e60 l0_4)), (5, .box 36 [.rw 0, .rw 1, .rw 2, .rw 3, .rw 4, .sc (.i .i64 b5_5)]), (6, .box 80 [.sc (.i .i64 b6_0), .sc (.i .i64 b6_1)])]⟩ => (impl_lotsRight.l2 k l0_0 x42 x43 l0_1 x49 x50 l0_0 l0_1 l0_2 l0_3 l0_4 b5_5 b6_0 b6_1).bind fun r => some (o95 l0_0 l0_1 l0_2 l0_3 l0_4 r)
  | _ => none
noncomputable def C95_3 : Nat → St Rw → Option (Out Rw) := fun k st => match st with
  | ⟨84, 5, 8, [(1, .pt 5 0), (6, .pt 6 0), (8, .pt 7 0), (41, .w (.c (.rw 0))), (42, .w (.c (.sc (.i .i64 x42)))), (43, .w (.c (.sc (.i .i64 x43)))), (48, .w (.c (.rw 1))), (49, .w (.c (.sc (.i .i64 x49)))), (50, .w (.c (.sc (.i .i64 x50)))), (61, .w (.c (.sc (.b x61))))], [(0, .rows 0 (.e80 l0_0)), (1, .rows 0 (.e84 l0_1)), (2, .rows 0 (.e106 l0_2)), (3, .rows 0 (.e110 l0_3)), (4, .rows 0 (.e60 l0_4)), (5, .box 36 [.rw 0, .rw 1, .rw 2, .rw 3, .rw 4, .sc (.i .i64 b5_5)]), (6, .box 80 [.sc (.i .i64 b6_0), .sc (.i .i64 b6_1)]), (7, .box 84 [.sc (.i .i64 b7_0), .sc (.i .i64 b7_1)])]⟩ => (impl_lotsRight.j3 k l0_0 x42 x43 l0_1 x49 x50 x61 l0_0 l0_1 l0_2 l0_3 l0_4 b5_5 b6_0 b6_1 b7_0 b7_1).bind fun r => some (o95 l0_0 l0_1 l0_2 l0_3 l0_4 r)
  | _ => none
noncomputable def K95 : List (Cut Rw) := [⟨[false, true, false, true], [1, 12, 13, 14], C95_0⟩, ⟨[false, true, false, true, true], [1, 41, 42, 43], C95_1⟩, ⟨[false, true, true, false, false, true, true, false, false, true, false, true, true], [1, 6, 41, 42, 43, 48, 49, 50], C95_2⟩, ⟨[true, false, true, false, false, true, true, false, false, true, true, false, false, true, true, false, false, true, false, true, true], [1, 6, 8, 41, 42, 43, 48, 49, 50, 61], C95_3⟩]
theorem h95_0 (k : Nat) (st : St Rw) (out : Out Rw) (h : C95_0 (k + 1) st = some out) : sg Tryz.prog O95 K95 Tryz.f95 k [false, true, false, true] st = some out := by
  unfold C95_0 at h; split at h
  · rename_i x13 x14 l0_0 l0_1 l0_2 l0_3 l0_4 b5_5
    exact Lo.of (b := (if x14 < x13 then (if 0 ≤ x14 then (if x14 < (l0_3.length : Int) then ((impl_accountKind.f k l0_0 (rd_T110 l0_3 x14).f0).bind fun r9 => (if r9 = 1 then ((impl_instrKind.f k l0_1 (rd_T110 l0_3 x14).f1).bind fun r10 => (if r10 = 2 then (if (rd_T110 l0_3 x14).f2 > b5_5 then (some (o95 l0_0 l0_1 l0_2 l0_3 l0_4 false)) else ((impl_lotsRight.l0 k l0_3 x13 (RowKit.wrap64 (x14 + 1)) l0_0 l0_1 l0_2 l0_3 l0_4 b5_5).bind fun r => some (o95 l0_0 l0_1 l0_2 l0_3 l0_4 r))) else (some (o95 l0_0 l0_1 l0_2 l0_3 l0_4 false)))) else (some (o95 l0_0 l0_1 l0_2 l0_3 l0_4 false)))) else none) else none) else ((impl_lotsRight.l1 k l0_0 ((l0_0.length : Int)) 0 l0_0 l0_1 l0_2 l0_3 l0_4 b5_5).bind fun r => some (o95 l0_0 l0_1 l0_2 l0_3 l0_4 r)))) (by kernel_rfl) (by rw [impl_lotsRight.l0]; exact lo_) _ h
  · cases h
theorem h95_1 (k : Nat) (st : St Rw) (out : Out Rw) (h : C95_1 (k + 1) st = some out) : sg Tryz.prog O95 K95 Tryz.f95 k [false, true, false, true, true] st = some out := by
  unfold C95_1 at h; split at h
  · rename_i x42 x43 l0_0 l0_1 l0_2 l0_3 l0_4 b5_5
    exact Lo.of (b := (if x43 < x42 then (if 0 ≤ x43 then (if x43 < (l0_0.length : Int) then ((impl_lotsRight.l2 k l0_0 x42 x43 l0_1 ((l0_1.length : Int)) 0 l0_0 l0_1 l0_2 l0_3 l0_4 b5_5 ((rd_T80 l0_0 x43).f0) ((rd_T80 l0_0 x43).f1)).bind fun r => some (o95 l0_0 l0_1 l0_2 l0_3 l0_4 r)) else none) else none) else (some (o95 l0_0 l0_1 l0_2 l0_3 l0_4 true)))) (by kernel_rfl) (by rw [impl_lotsRight.l1]; exact lo_) _ h
  · cases h
theorem h95_2 (k : Nat) (st : St Rw) (out : Out Rw) (h : C95_2 (k + 1) st = some out) : sg Tryz.prog O95 K95 Tryz.f95 k [false, true, true, false, false, true, true, false, false, true, false, true, true] st = some out := by
  unfold C95_2 at h; split at h
  · rename_i x42 x43 x49 x50 l0_0 l0_1 l0_2 l0_3 l0_4 b5_5 b6_0 b6_1
    exact Lo.of (b := (if x50 < x49 then (if 0 ≤ x50 then (if x50 < (l0_1.length : Int) then (if b6_1 = 1 then ((impl_lotsRight.j3 k l0_0 x42 x43 l0_1 x49 x50 (!decide ((rd_T84 l0_1 x50).f1 = 2)) l0_0 l0_1 l0_2 l0_3 l0_4 b5_5 b6_0 b6_1 ((rd_T84 l0_1 x50).f0) ((rd_T84 l0_1 x50).f1)).bind fun r => some (o95 l0_0 l0_1 l0_2 l0_3 l0_4 r)) else ((impl_lotsRight.j3 k l0_0 x42 x43 l0_1 x49 x50 true l0_0 l0_1 l0_2 l0_3 l0_4 b5_5 b6_0 b6_1 ((rd_T84 l0_1 x50).f0) ((rd_T84 l0_1 x50).f1)).bind fun r => some (o95 l0_0 l0_1 l0_2 l0_3 l0_4 r))) else none) else none) else ((impl_lotsRight.l1 k l0_0 x42 (RowKit.wrap64 (x43 + 1)) l0_0 l0_1 l0_2 l0_3 l0_4 b5_5).bind fun r => some (o95 l0_0 l0_1 l0_2 l0_3 l0_4 r)))) (by kernel_rfl) (by rw [impl_lotsRight.l2]; exact lo_) _ h
  · cases h
theorem h95_3 (k : Nat) (st : St Rw) (out : Out Rw) (h : C95_3 (k + 1) st = some out) : sg Tryz.prog O95 K95 Tryz.f95 k [true, false, true, false, false, true, true, false, false, true, true, false, false, true, true, false, false, true, false, true, true] st = some out := by
  unfold C95_3 at h; split at h
  · rename_i x42 x43 x49 x50 x61 l0_0 l0_1 l0_2 l0_3 l0_4 b5_5 b6_0 b6_1 b7_0 b7_1
    exact Lo.of (b := (if x61 = true then ((impl_lotsRight.l2 k l0_0 x42 x43 l0_1 x49 (RowKit.wrap64 (x50 + 1)) l0_0 l0_1 l0_2 l0_3 l0_4 b5_5 b6_0 b6_1).bind fun r => some (o95 l0_0 l0_1 l0_2 l0_3 l0_4 r)) else ((impl_lotsOf.f l0_3 b6_0 b7_0).bind fun r16 => ((impl_sumLots.f k r16).bind fun r17 => ((impl_balOf.f k l0_2 b6_0 b7_0).bind fun r18 => (if r17.1 = r18 then ((impl_lotsRight.l2 k l0_0 x42 x43 l0_1 x49 (RowKit.wrap64 (x50 + 1)) l0_0 l0_1 l0_2 l0_3 l0_4 b5_5 b6_0 b6_1).bind fun r => some (o95 l0_0 l0_1 l0_2 l0_3 l0_4 r)) else (some (o95 l0_0 l0_1 l0_2 l0_3 l0_4 false)))))))) (by kernel_rfl) (by rw [impl_lotsRight.j3]; exact lo_) _ h
  · cases h
theorem d95 : Sound Tryz.prog q95 := fn_d (O := O95) (cs := K95) (cons_ d108 (cons_ d110 (cons_ d137 (cons_ d136 (cons_ d139 nil_))))) mixed Tryz.func95 (cons_ (fun st => by show C95_0 0 st = none; unfold C95_0; split <;> rfl) (cons_ (fun st => by show C95_1 0 st = none; unfold C95_1; split <;> rfl) (cons_ (fun st => by show C95_2 0 st = none; unfold C95_2; split <;> rfl) (cons_ (fun st => by show C95_3 0 st = none; unfold C95_3; split <;> rfl) nil_)))) (cons_ h95_0 (cons_ h95_1 (cons_ h95_2 (cons_ h95_3 nil_)))) fun k a h Z K z e => by
  unfold Q95 at e; split at e
  · rename_i a0_5 l0_0 l0_1 l0_2 l0_3 l0_4
    exact ent e (Lo.of (b := ((impl_lotsRight.l0 k l0_3 ((l0_3.length : Int)) 0 l0_0 l0_1 l0_2 l0_3 l0_4 a0_5).bind fun r => some (o95 l0_0 l0_1 l0_2 l0_3 l0_4 r))) (by kernel_rfl) (by unfold impl_lotsRight.f; exact lo_))
  · cases e
noncomputable def o37 (l0_0 : List S80) (l0_1 : List S84) (l0_2 : List S106) (l0_3 : List S110) (l0_4 : List S60) (r : Bool) : Out Rw := ⟨[.c (.sc (.b r))], [.rows 0 (.e80 l0_0), .rows 0 (.e84 l0_1), .rows 0 (.e106 l0_2), .rows 0 (.e110 l0_3), .rows 0 (.e60 l0_4)]⟩
noncomputable def Q37 : Mean Rw := fun k a h Z K => match a, h with
  | [.w (.ag [.rw 0, .rw 1, .rw 2, .rw 3, .rw 4, .sc (.i .i64 a0_5)])], [.rows 0 (.e80 l0_0), .rows 0 (.e84 l0_1), .rows 0 (.e106 l0_2), .rows 0 (.e110 l0_3), .rows 0 (.e60 l0_4)] => (impl_BooksOk.f k l0_0 l0_1 l0_2 l0_3 l0_4 a0_5).bind fun r => K (o37 l0_0 l0_1 l0_2 l0_3 l0_4 r)
  | _, _ => none
noncomputable def q37 : Cal Rw := ⟨37, false, Q37⟩
noncomputable def O37 : List (Cal Rw) := [q89, q90, q91, q92, q93, q59, q94, q95, q96]
noncomputable def C37_0 : Nat → St Rw → Option (Out Rw) := fun k st => match st with
  | ⟨47, 5, 6, [(1, .pt 5 0), (36, .w (.c (.sc (.b x36))))], [(0, .rows 0 (.e80 l0_0)), (1, .rows 0 (.e84 l0_1)), (2, .rows 0 (.e106 l0_2)), (3, .rows 0 (.e110 l0_3)), (4, .rows 0 (.e60 l0_4)), (5, .box 36 [.rw 0, .rw 1, .rw 2, .rw 3, .rw 4, .sc (.i .i64 b5_5)])]⟩ => (impl_BooksOk.j0 k x36 l0_0 l0_1 l0_2 l0_3 l0_4 b5_5).bind fun r => some (o37 l0_0 l0_1 l0_2 l0_3 l0_4 r)
  | _ => none
noncomputable def K37 : List (Cut Rw) := [⟨[true, false, true], [1, 36], C37_0⟩]
theorem h37_0 (k : Nat) (st : St Rw) (out : Out Rw) (h : C37_0 (k + 1) st = some out) : sg Tryz.prog O37 K37 Tryz.f37 k [true, false, true] st = some out := by
  unfold C37_0 at h; split at h
  · rename_i x36 l0_0 l0_1 l0_2 l0_3 l0_4 b5_5
    exact Lo.of (b := (if x36 = true then (some (o37 l0_0 l0_1 l0_2 l0_3 l0_4 false)) else ((impl_balsRight.f k l0_0 l0_1 l0_2 l0_3 l0_4 b5_5).bind fun r8 => (if r8 = true then ((impl_lotsRight.f k l0_0 l0_1 l0_2 l0_3 l0_4 b5_5).bind fun r9 => (if r9 = true then ((impl_tradesRight.f l0_0 l0_1 l0_2 l0_3 l0_4 b5_5).bind fun r10 => (some (o37 l0_0 l0_1 l0_2 l0_3 l0_4 r10))) else (some (o37 l0_0 l0_1 l0_2 l0_3 l0_4 false)))) else (some (o37 l0_0 l0_1 l0_2 l0_3 l0_4 false)))))) (by kernel_rfl) (by rw [impl_BooksOk.j0]; exact lo_) _ h
  · cases h
theorem d37 : Sound Tryz.prog q37 := fn_d (O := O37) (cs := K37) (cons_ d89 (cons_ d90 (cons_ d91 (cons_ d92 (cons_ d93 (cons_ d59 (cons_ d94 (cons_ d95 (cons_ d96 nil_))))))))) mixed Tryz.func37 (cons_ (fun st => by show C37_0 0 st = none; unfold C37_0; split <;> rfl) nil_) (cons_ h37_0 nil_) fun k a h Z K z e => by
  unfold Q37 at e; split at e
  · rename_i a0_5 l0_0 l0_1 l0_2 l0_3 l0_4
    exact ent e (Lo.of (b := ((impl_AccountsOk.f k l0_0).bind fun r7 => (if r7 = true then ((impl_InstrsOk.f k l0_1).bind fun r8 => (if r8 = true then ((impl_BalsOk.f k l0_2).bind fun r9 => (if r9 = true then ((impl_LotsOk.f l0_3).bind fun r10 => (if r10 = true then ((impl_TradesOk.f k l0_4).bind fun r11 => (if r11 = true then ((impl_in.f a0_5 0 1000000000).bind fun r12 => ((impl_BooksOk.j0 k (!decide (r12 = true)) l0_0 l0_1 l0_2 l0_3 l0_4 a0_5).bind fun r => some (o37 l0_0 l0_1 l0_2 l0_3 l0_4 r))) else ((impl_BooksOk.j0 k true l0_0 l0_1 l0_2 l0_3 l0_4 a0_5).bind fun r => some (o37 l0_0 l0_1 l0_2 l0_3 l0_4 r)))) else ((impl_BooksOk.j0 k true l0_0 l0_1 l0_2 l0_3 l0_4 a0_5).bind fun r => some (o37 l0_0 l0_1 l0_2 l0_3 l0_4 r)))) else ((impl_BooksOk.j0 k true l0_0 l0_1 l0_2 l0_3 l0_4 a0_5).bind fun r => some (o37 l0_0 l0_1 l0_2 l0_3 l0_4 r)))) else ((impl_BooksOk.j0 k true l0_0 l0_1 l0_2 l0_3 l0_4 a0_5).bind fun r => some (o37 l0_0 l0_1 l0_2 l0_3 l0_4 r)))) else ((impl_BooksOk.j0 k true l0_0 l0_1 l0_2 l0_3 l0_4 a0_5).bind fun r => some (o37 l0_0 l0_1 l0_2 l0_3 l0_4 r))))) (by kernel_rfl) (by unfold impl_BooksOk.f; exact lo_))
  · cases e
noncomputable def o39 (l0_0 : List S80) (l0_1 : List S84) (l0_2 : List S106) (l0_3 : List S110) (l0_4 : List S60) (r : (List (S80)) × (List (S84)) × (List (S106)) × (List (S110)) × (List (S60)) × Int) : Out Rw := ⟨[.ag [.rw 5, .rw 6, .rw 7, .rw 8, .rw 9, .sc (.i .i64 r.2.2.2.2.2)]], [.rows 0 (.e80 l0_0), .rows 0 (.e84 l0_1), .rows 0 (.e106 l0_2), .rows 0 (.e110 l0_3), .rows 0 (.e60 l0_4), .rows 2 (.e80 r.1), .rows 2 (.e84 r.2.1), .rows 2 (.e106 r.2.2.1), .rows 2 (.e110 r.2.2.2.1), .rows 2 (.e60 r.2.2.2.2.1)]⟩
noncomputable def Q39 : Mean Rw := fun k a h Z K => match a, h with
  | [.w (.ag [.rw 0, .rw 1, .rw 2, .rw 3, .rw 4, .sc (.i .i64 a0_5)])], [.rows 0 (.e80 l0_0), .rows 0 (.e84 l0_1), .rows 0 (.e106 l0_2), .rows 0 (.e110 l0_3), .rows 0 (.e60 l0_4)] => (impl_cloneBooks.f l0_0 l0_1 l0_2 l0_3 l0_4 a0_5).bind fun r => K (o39 l0_0 l0_1 l0_2 l0_3 l0_4 r)
  | _, _ => none
noncomputable def q39 : Cal Rw := ⟨39, false, Q39⟩
noncomputable def O39 : List (Cal Rw) := [q97, q98, q99, q100, q101]
noncomputable def K39 : List (Cut Rw) := []
theorem d39 : Sound Tryz.prog q39 := fn_d (O := O39) (cs := K39) (cons_ d97 (cons_ d98 (cons_ d99 (cons_ d100 (cons_ d101 nil_))))) mixed Tryz.func39 nil_ nil_ fun k a h Z K z e => by
  unfold Q39 at e; split at e
  · rename_i a0_5 l0_0 l0_1 l0_2 l0_3 l0_4
    exact ent e (Lo.of (b := ((impl_Account_97.f l0_0).bind fun r7 => ((impl_Instr_98.f l0_1).bind fun r8 => ((impl_Bal_99.f l0_2).bind fun r9 => ((impl_Lot_100.f l0_3).bind fun r10 => ((impl_Trade.f l0_4).bind fun r11 => (some (o39 l0_0 l0_1 l0_2 l0_3 l0_4 (r7, r8, r9, r10, r11, a0_5))))))))) (by kernel_rfl) (by unfold impl_cloneBooks.f; exact lo_))
  · cases e
noncomputable def o40 (l0_0 : List S80) (l0_1 : List S84) (l0_2 : List S106) (l0_3 : List S110) (l0_4 : List S60) (r : Int × Int) : Out Rw := ⟨[.c (.sc (.i .i64 r.1)), .c (.sc (.i .i64 r.2))], [.rows 0 (.e80 l0_0), .rows 0 (.e84 l0_1), .rows 0 (.e106 l0_2), .rows 0 (.e110 l0_3), .rows 0 (.e60 l0_4)]⟩
noncomputable def Q40 : Mean Rw := fun k a h Z K => match a, h with
  | [.w (.ag [.rw 0, .rw 1, .rw 2, .rw 3, .rw 4, .sc (.i .i64 a0_5)]), .w (.c (.sc (.i .i64 a1)))], [.rows 0 (.e80 l0_0), .rows 0 (.e84 l0_1), .rows 0 (.e106 l0_2), .rows 0 (.e110 l0_3), .rows 0 (.e60 l0_4)] => (impl_openTrade.f l0_0 l0_1 l0_2 l0_3 l0_4 a0_5 a1).bind fun r => K (o40 l0_0 l0_1 l0_2 l0_3 l0_4 r)
  | _, _ => none
noncomputable def q40 : Cal Rw := ⟨40, false, Q40⟩
noncomputable def O40 : List (Cal Rw) := [q102]
noncomputable def K40 : List (Cut Rw) := []
theorem d40 : Sound Tryz.prog q40 := fn_d (O := O40) (cs := K40) (cons_ d102 nil_) mixed Tryz.func40 nil_ nil_ fun k a h Z K z e => by
  unfold Q40 at e; split at e
  · rename_i a0_5 a1 l0_0 l0_1 l0_2 l0_3 l0_4
    exact ent e (Lo.of (b := ((impl_tradeAt.f l0_0 l0_1 l0_2 l0_3 l0_4 a0_5 a1).bind fun r8 => (if r8 < 0 then (some (o40 l0_0 l0_1 l0_2 l0_3 l0_4 (0, 3))) else (if 0 ≤ r8 then (if r8 < (l0_4.length : Int) then (if (rd_T60 l0_4 r8).f7 = 1 then (some (o40 l0_0 l0_1 l0_2 l0_3 l0_4 (r8, 0))) else (some (o40 l0_0 l0_1 l0_2 l0_3 l0_4 (0, 6)))) else none) else none)))) (by kernel_rfl) (by unfold impl_openTrade.f; exact lo_))
  · cases e
noncomputable def o11 (l0_0 : List S80) (l0_1 : List S84) (l0_2 : List S106) (l0_3 : List S110) (l0_4 : List S60) (r : (List (S80)) × (List (S84)) × (List (S106)) × (List (S110)) × (List (S60)) × Int × Int) : Out Rw := ⟨[.ag [.rw 5, .rw 6, .rw 7, .rw 8, .rw 9, .sc (.i .i64 r.2.2.2.2.2.1)], .c (.sc (.i .i64 r.2.2.2.2.2.2))], [.rows 0 (.e80 l0_0), .rows 0 (.e84 l0_1), .rows 0 (.e106 l0_2), .rows 0 (.e110 l0_3), .rows 0 (.e60 l0_4), .rows 2 (.e80 r.1), .rows 2 (.e84 r.2.1), .rows 2 (.e106 r.2.2.1), .rows 2 (.e110 r.2.2.2.1), .rows 2 (.e60 r.2.2.2.2.1)]⟩
noncomputable def Q11 : Mean Rw := fun k a h Z K => match a, h with
  | [.w (.ag [.rw 0, .rw 1, .rw 2, .rw 3, .rw 4, .sc (.i .i64 a0_5)]), .w (.c (.sc (.i .i64 a1)))], [.rows 0 (.e80 l0_0), .rows 0 (.e84 l0_1), .rows 0 (.e106 l0_2), .rows 0 (.e110 l0_3), .rows 0 (.e60 l0_4)] => (impl_BookCancel.f k l0_0 l0_1 l0_2 l0_3 l0_4 a0_5 a1).bind fun r => K (o11 l0_0 l0_1 l0_2 l0_3 l0_4 r)
  | _, _ => none
noncomputable def q11 : Cal Rw := ⟨11, false, Q11⟩
noncomputable def O11 : List (Cal Rw) := [q37, q38, q39, q40]
noncomputable def C11_0 : Nat → St Rw → Option (Out Rw) := fun k st => match st with
  | ⟨35, 5, 12, [(1, .w (.c (.sc (.i .i64 x1)))), (2, .pt 5 0), (4, .pt 6 0), (16, .w (.c (.sc (.b x16))))], [(0, .rows 0 (.e80 l0_0)), (1, .rows 0 (.e84 l0_1)), (2, .rows 0 (.e106 l0_2)), (3, .rows 0 (.e110 l0_3)), (4, .rows 0 (.e60 l0_4)), (5, .box 36 [.rw 0, .rw 1, .rw 2, .rw 3, .rw 4, .sc (.i .i64 b5_5)]), (6, .box 36 [.rw 7, .rw 8, .rw 9, .rw 10, .rw 11, .sc (.i .i64 b6_5)]), (7, .rows 2 (.e80 y7)), (8, .rows 2 (.e84 y8)), (9, .rows 2 (.e106 y9)), (10, .rows 2 (.e110 y10)), (11, .rows 2 (.e60 y11))]⟩ => (impl_BookCancel.j0 k x1 x16 l0_0 l0_1 l0_2 l0_3 l0_4 b5_5).bind fun r => some (o11 l0_0 l0_1 l0_2 l0_3 l0_4 r)
  | _ => none
noncomputable def K11 : List (Cut Rw) := [⟨[true, false, true], [1, 2, 4, 16], C11_0⟩]
theorem h11_0 (k : Nat) (st : St Rw) (out : Out Rw) (h : C11_0 (k + 1) st = some out) : sg Tryz.prog O11 K11 Tryz.f11 k [true, false, true] st = some out := by
  unfold C11_0 at h; split at h
  · rename_i x1 x16 l0_0 l0_1 l0_2 l0_3 l0_4 b5_5 b6_5 y7 y8 y9 y10 y11
    exact Lo.of (b := (if x16 = true then (some (o11 l0_0 l0_1 l0_2 l0_3 l0_4 ([], [], [], [], [], 0, 1))) else ((impl_cloneBooks.f l0_0 l0_1 l0_2 l0_3 l0_4 b5_5).bind fun r15 => ((impl_openTrade.f l0_0 l0_1 l0_2 l0_3 l0_4 b5_5 x1).bind fun r16 => (if r16.2 = 0 then (if 0 ≤ r16.1 then (if r16.1 < ↑r15.2.2.2.2.1.length then ((some (r15.2.2.2.2.1.set r16.1.toNat (⟨(rd_T60 r15.2.2.2.2.1 r16.1).f0, (rd_T60 r15.2.2.2.2.1 r16.1).f1, (rd_T60 r15.2.2.2.2.1 r16.1).f2, (rd_T60 r15.2.2.2.2.1 r16.1).f3, (rd_T60 r15.2.2.2.2.1 r16.1).f4, (rd_T60 r15.2.2.2.2.1 r16.1).f5, (rd_T60 r15.2.2.2.2.1 r16.1).f6, 3⟩ : S60))).bind fun y17 => (some (o11 l0_0 l0_1 l0_2 l0_3 l0_4 (r15.1, r15.2.1, r15.2.2.1, r15.2.2.2.1, y17, r15.2.2.2.2.2, r16.2)))) else none) else none) else (some (o11 l0_0 l0_1 l0_2 l0_3 l0_4 (r15.1, r15.2.1, r15.2.2.1, r15.2.2.2.1, r15.2.2.2.2.1, r15.2.2.2.2.2, r16.2)))))))) (by kernel_rfl) (by rw [impl_BookCancel.j0]; exact lo_) _ h
  · cases h
theorem d11 : Sound Tryz.prog q11 := fn_d (O := O11) (cs := K11) (cons_ d37 (cons_ d38 (cons_ d39 (cons_ d40 nil_)))) mixed Tryz.func11 (cons_ (fun st => by show C11_0 0 st = none; unfold C11_0; split <;> rfl) nil_) (cons_ h11_0 nil_) fun k a h Z K z e => by
  unfold Q11 at e; split at e
  · rename_i a0_5 a1 l0_0 l0_1 l0_2 l0_3 l0_4
    exact ent e (Lo.of (b := ((impl_BooksOk.f k l0_0 l0_1 l0_2 l0_3 l0_4 a0_5).bind fun r8 => (if r8 = true then ((impl_isNo.f a1).bind fun r9 => ((impl_BookCancel.j0 k a1 (!decide (r9 = true)) l0_0 l0_1 l0_2 l0_3 l0_4 a0_5).bind fun r => some (o11 l0_0 l0_1 l0_2 l0_3 l0_4 r))) else ((impl_BookCancel.j0 k a1 true l0_0 l0_1 l0_2 l0_3 l0_4 a0_5).bind fun r => some (o11 l0_0 l0_1 l0_2 l0_3 l0_4 r))))) (by kernel_rfl) (by unfold impl_BookCancel.f; exact lo_))
  · cases e
noncomputable def o103 (r : Bool) : Out Rw := ⟨[.c (.sc (.b r))], []⟩
noncomputable def Q103 : Mean Rw := fun k a h Z K => match a, h with
  | [.w (.ag [.sc (.i .i64 a0_0), .sc (.i .i64 a0_1)]), .w (.ag [.sc (.i .i64 a1_0), .sc (.i .i64 a1_1)])], [] => (laws_eqAccount.f a0_0 a0_1 a1_0 a1_1).bind fun r => K (o103 r)
  | _, _ => none
noncomputable def q103 : Cal Rw := ⟨103, false, Q103⟩
noncomputable def O103 : List (Cal Rw) := []
noncomputable def K103 : List (Cut Rw) := []
theorem d103 : Sound Tryz.prog q103 := fn_d (O := O103) (cs := K103) nil_ mixed Tryz.func103 nil_ nil_ fun k a h Z K z e => by
  unfold Q103 at e; split at e
  · rename_i a0_0 a0_1 a1_0 a1_1
    exact ent e (Lo.of (b := (if a0_0 = a1_0 then (if a0_1 = a1_1 then (some (o103 true)) else (some (o103 false))) else (some (o103 false)))) (by kernel_rfl) (by unfold laws_eqAccount.f; exact lo_))
  · cases e
noncomputable def o41 (l0 : List S80) (l1 : List S80) (r : Bool) : Out Rw := ⟨[.c (.sc (.b r))], [.rows 0 (.e80 l0), .rows 0 (.e80 l1)]⟩
noncomputable def Q41 : Mean Rw := fun k a h Z K => match a, h with
  | [.w (.c (.rw 0)), .w (.c (.rw 1))], [.rows 0 (.e80 l0), .rows 0 (.e80 l1)] => (laws_eqAccountS.f k l0 l1).bind fun r => K (o41 l0 l1 r)
  | _, _ => none
noncomputable def q41 : Cal Rw := ⟨41, false, Q41⟩
noncomputable def O41 : List (Cal Rw) := [q103]
noncomputable def C41_0 : Nat → St Rw → Option (Out Rw) := fun k st => match st with
  | ⟨27, 2, 2, [(0, .w (.c (.rw 0))), (1, .w (.c (.rw 1))), (5, .w (.c (.sc (.i .i64 x5))))], [(0, .rows 0 (.e80 l0)), (1, .rows 0 (.e80 l1))]⟩ => (laws_eqAccountS.l0 k l0 l1 x5).bind fun r => some (o41 l0 l1 r)
  | _ => none
noncomputable def K41 : List (Cut Rw) := [⟨[false, true, false, true, true], [0, 1, 5], C41_0⟩]
theorem h41_0 (k : Nat) (st : St Rw) (out : Out Rw) (h : C41_0 (k + 1) st = some out) : sg Tryz.prog O41 K41 Tryz.f41 k [false, true, false, true, true] st = some out := by
  unfold C41_0 at h; split at h
  · rename_i x5 l0 l1
    exact Lo.of (b := (if x5 < (l0.length : Int) then (if 0 ≤ x5 then (if x5 < (l0.length : Int) then (if 0 ≤ x5 then (if x5 < (l1.length : Int) then ((laws_eqAccount.f (rd_T80 l0 x5).f0 (rd_T80 l0 x5).f1 (rd_T80 l1 x5).f0 (rd_T80 l1 x5).f1).bind fun r4 => (if r4 = true then ((laws_eqAccountS.l0 k l0 l1 (RowKit.wrap64 (x5 + 1))).bind fun r => some (o41 l0 l1 r)) else (some (o41 l0 l1 false)))) else none) else none) else none) else none) else (some (o41 l0 l1 true)))) (by kernel_rfl) (by rw [laws_eqAccountS.l0]; exact lo_) _ h
  · cases h
theorem d41 : Sound Tryz.prog q41 := fn_d (O := O41) (cs := K41) (cons_ d103 nil_) mixed Tryz.func41 (cons_ (fun st => by show C41_0 0 st = none; unfold C41_0; split <;> rfl) nil_) (cons_ h41_0 nil_) fun k a h Z K z e => by
  unfold Q41 at e; split at e
  · rename_i l0 l1
    exact ent e (Lo.of (b := (if (l0.length : Int) = (l1.length : Int) then ((laws_eqAccountS.l0 k l0 l1 0).bind fun r => some (o41 l0 l1 r)) else (some (o41 l0 l1 false)))) (by kernel_rfl) (by unfold laws_eqAccountS.f; exact lo_))
  · cases e
noncomputable def o104 (r : Bool) : Out Rw := ⟨[.c (.sc (.b r))], []⟩
noncomputable def Q104 : Mean Rw := fun k a h Z K => match a, h with
  | [.w (.ag [.sc (.i .i64 a0_0), .sc (.i .i64 a0_1)]), .w (.ag [.sc (.i .i64 a1_0), .sc (.i .i64 a1_1)])], [] => (laws_eqInstr.f a0_0 a0_1 a1_0 a1_1).bind fun r => K (o104 r)
  | _, _ => none
noncomputable def q104 : Cal Rw := ⟨104, false, Q104⟩
noncomputable def O104 : List (Cal Rw) := []
noncomputable def K104 : List (Cut Rw) := []
theorem d104 : Sound Tryz.prog q104 := fn_d (O := O104) (cs := K104) nil_ mixed Tryz.func104 nil_ nil_ fun k a h Z K z e => by
  unfold Q104 at e; split at e
  · rename_i a0_0 a0_1 a1_0 a1_1
    exact ent e (Lo.of (b := (if a0_0 = a1_0 then (if a0_1 = a1_1 then (some (o104 true)) else (some (o104 false))) else (some (o104 false)))) (by kernel_rfl) (by unfold laws_eqInstr.f; exact lo_))
  · cases e
noncomputable def o42 (l0 : List S84) (l1 : List S84) (r : Bool) : Out Rw := ⟨[.c (.sc (.b r))], [.rows 0 (.e84 l0), .rows 0 (.e84 l1)]⟩
noncomputable def Q42 : Mean Rw := fun k a h Z K => match a, h with
  | [.w (.c (.rw 0)), .w (.c (.rw 1))], [.rows 0 (.e84 l0), .rows 0 (.e84 l1)] => (laws_eqInstrS.f k l0 l1).bind fun r => K (o42 l0 l1 r)
  | _, _ => none
noncomputable def q42 : Cal Rw := ⟨42, false, Q42⟩
noncomputable def O42 : List (Cal Rw) := [q104]
noncomputable def C42_0 : Nat → St Rw → Option (Out Rw) := fun k st => match st with
  | ⟨27, 2, 2, [(0, .w (.c (.rw 0))), (1, .w (.c (.rw 1))), (5, .w (.c (.sc (.i .i64 x5))))], [(0, .rows 0 (.e84 l0)), (1, .rows 0 (.e84 l1))]⟩ => (laws_eqInstrS.l0 k l0 l1 x5).bind fun r => some (o42 l0 l1 r)
  | _ => none
noncomputable def K42 : List (Cut Rw) := [⟨[false, true, false, true, true], [0, 1, 5], C42_0⟩]
theorem h42_0 (k : Nat) (st : St Rw) (out : Out Rw) (h : C42_0 (k + 1) st = some out) : sg Tryz.prog O42 K42 Tryz.f42 k [false, true, false, true, true] st = some out := by
  unfold C42_0 at h; split at h
  · rename_i x5 l0 l1
    exact Lo.of (b := (if x5 < (l0.length : Int) then (if 0 ≤ x5 then (if x5 < (l0.length : Int) then (if 0 ≤ x5 then (if x5 < (l1.length : Int) then ((laws_eqInstr.f (rd_T84 l0 x5).f0 (rd_T84 l0 x5).f1 (rd_T84 l1 x5).f0 (rd_T84 l1 x5).f1).bind fun r4 => (if r4 = true then ((laws_eqInstrS.l0 k l0 l1 (RowKit.wrap64 (x5 + 1))).bind fun r => some (o42 l0 l1 r)) else (some (o42 l0 l1 false)))) else none) else none) else none) else none) else (some (o42 l0 l1 true)))) (by kernel_rfl) (by rw [laws_eqInstrS.l0]; exact lo_) _ h
  · cases h
theorem d42 : Sound Tryz.prog q42 := fn_d (O := O42) (cs := K42) (cons_ d104 nil_) mixed Tryz.func42 (cons_ (fun st => by show C42_0 0 st = none; unfold C42_0; split <;> rfl) nil_) (cons_ h42_0 nil_) fun k a h Z K z e => by
  unfold Q42 at e; split at e
  · rename_i l0 l1
    exact ent e (Lo.of (b := (if (l0.length : Int) = (l1.length : Int) then ((laws_eqInstrS.l0 k l0 l1 0).bind fun r => some (o42 l0 l1 r)) else (some (o42 l0 l1 false)))) (by kernel_rfl) (by unfold laws_eqInstrS.f; exact lo_))
  · cases e
noncomputable def o105 (r : Bool) : Out Rw := ⟨[.c (.sc (.b r))], []⟩
noncomputable def Q105 : Mean Rw := fun k a h Z K => match a, h with
  | [.w (.ag [.sc (.i .i64 a0_0), .sc (.i .i64 a0_1), .sc (.i .i64 a0_2)]), .w (.ag [.sc (.i .i64 a1_0), .sc (.i .i64 a1_1), .sc (.i .i64 a1_2)])], [] => (laws_eqBal.f a0_0 a0_1 a0_2 a1_0 a1_1 a1_2).bind fun r => K (o105 r)
  | _, _ => none
noncomputable def q105 : Cal Rw := ⟨105, false, Q105⟩
noncomputable def O105 : List (Cal Rw) := []
noncomputable def K105 : List (Cut Rw) := []
theorem d105 : Sound Tryz.prog q105 := fn_d (O := O105) (cs := K105) nil_ mixed Tryz.func105 nil_ nil_ fun k a h Z K z e => by
  unfold Q105 at e; split at e
  · rename_i a0_0 a0_1 a0_2 a1_0 a1_1 a1_2
    exact ent e (Lo.of (b := (if a0_0 = a1_0 then (if a0_1 = a1_1 then (if a0_2 = a1_2 then (some (o105 true)) else (some (o105 false))) else (some (o105 false))) else (some (o105 false)))) (by kernel_rfl) (by unfold laws_eqBal.f; exact lo_))
  · cases e
noncomputable def o43 (l0 : List S106) (l1 : List S106) (r : Bool) : Out Rw := ⟨[.c (.sc (.b r))], [.rows 0 (.e106 l0), .rows 0 (.e106 l1)]⟩
noncomputable def Q43 : Mean Rw := fun k a h Z K => match a, h with
  | [.w (.c (.rw 0)), .w (.c (.rw 1))], [.rows 0 (.e106 l0), .rows 0 (.e106 l1)] => (laws_eqBalS.f k l0 l1).bind fun r => K (o43 l0 l1 r)
  | _, _ => none
noncomputable def q43 : Cal Rw := ⟨43, false, Q43⟩
noncomputable def O43 : List (Cal Rw) := [q105]
noncomputable def C43_0 : Nat → St Rw → Option (Out Rw) := fun k st => match st with
  | ⟨27, 2, 2, [(0, .w (.c (.rw 0))), (1, .w (.c (.rw 1))), (5, .w (.c (.sc (.i .i64 x5))))], [(0, .rows 0 (.e106 l0)), (1, .rows 0 (.e106 l1))]⟩ => (laws_eqBalS.l0 k l0 l1 x5).bind fun r => some (o43 l0 l1 r)
  | _ => none
noncomputable def K43 : List (Cut Rw) := [⟨[false, true, false, true, true], [0, 1, 5], C43_0⟩]
theorem h43_0 (k : Nat) (st : St Rw) (out : Out Rw) (h : C43_0 (k + 1) st = some out) : sg Tryz.prog O43 K43 Tryz.f43 k [false, true, false, true, true] st = some out := by
  unfold C43_0 at h; split at h
  · rename_i x5 l0 l1
    exact Lo.of (b := (if x5 < (l0.length : Int) then (if 0 ≤ x5 then (if x5 < (l0.length : Int) then (if 0 ≤ x5 then (if x5 < (l1.length : Int) then ((laws_eqBal.f (rd_T106 l0 x5).f0 (rd_T106 l0 x5).f1 (rd_T106 l0 x5).f2 (rd_T106 l1 x5).f0 (rd_T106 l1 x5).f1 (rd_T106 l1 x5).f2).bind fun r4 => (if r4 = true then ((laws_eqBalS.l0 k l0 l1 (RowKit.wrap64 (x5 + 1))).bind fun r => some (o43 l0 l1 r)) else (some (o43 l0 l1 false)))) else none) else none) else none) else none) else (some (o43 l0 l1 true)))) (by kernel_rfl) (by rw [laws_eqBalS.l0]; exact lo_) _ h
  · cases h
theorem d43 : Sound Tryz.prog q43 := fn_d (O := O43) (cs := K43) (cons_ d105 nil_) mixed Tryz.func43 (cons_ (fun st => by show C43_0 0 st = none; unfold C43_0; split <;> rfl) nil_) (cons_ h43_0 nil_) fun k a h Z K z e => by
  unfold Q43 at e; split at e
  · rename_i l0 l1
    exact ent e (Lo.of (b := (if (l0.length : Int) = (l1.length : Int) then ((laws_eqBalS.l0 k l0 l1 0).bind fun r => some (o43 l0 l1 r)) else (some (o43 l0 l1 false)))) (by kernel_rfl) (by unfold laws_eqBalS.f; exact lo_))
  · cases e
noncomputable def o106 (r : Bool) : Out Rw := ⟨[.c (.sc (.b r))], []⟩
noncomputable def Q106 : Mean Rw := fun k a h Z K => match a, h with
  | [.w (.ag [.sc (.i .i64 a0_0), .sc (.i .i64 a0_1), .sc (.i .i64 a0_2), .sc (.i .i64 a0_3), .sc (.i .i64 a0_4)]), .w (.ag [.sc (.i .i64 a1_0), .sc (.i .i64 a1_1), .sc (.i .i64 a1_2), .sc (.i .i64 a1_3), .sc (.i .i64 a1_4)])], [] => (laws_eqLot.f a0_0 a0_1 a0_2 a0_3 a0_4 a1_0 a1_1 a1_2 a1_3 a1_4).bind fun r => K (o106 r)
  | _, _ => none
noncomputable def q106 : Cal Rw := ⟨106, false, Q106⟩
noncomputable def O106 : List (Cal Rw) := []
noncomputable def K106 : List (Cut Rw) := []
theorem d106 : Sound Tryz.prog q106 := fn_d (O := O106) (cs := K106) nil_ mixed Tryz.func106 nil_ nil_ fun k a h Z K z e => by
  unfold Q106 at e; split at e
  · rename_i a0_0 a0_1 a0_2 a0_3 a0_4 a1_0 a1_1 a1_2 a1_3 a1_4
    exact ent e (Lo.of (b := (if a0_0 = a1_0 then (if a0_1 = a1_1 then (if a0_2 = a1_2 then (if a0_3 = a1_3 then (if a0_4 = a1_4 then (some (o106 true)) else (some (o106 false))) else (some (o106 false))) else (some (o106 false))) else (some (o106 false))) else (some (o106 false)))) (by kernel_rfl) (by unfold laws_eqLot.f; exact lo_))
  · cases e
end Go.Proofs.YtmfgajbkcnlkcaaGreat.AI
namespace Go.Proofs.YtmfgajbkcnlkcaaGreat.AI
open Go Go.RowKit Go.Proofs.YtmfgajbkcnlkcaaGreatW.PrintWords Go.Proofs.YtmfgajbkcnlkcaaGreat.P
set_option linter.unusedVariables false
set_option linter.all false
set_option maxRecDepth 100000
set_option maxHeartbeats 4000000
noncomputable def o44 (l0 : List S110) (l1 : List S110) (r : Bool) : Out Rw := ⟨[.c (.sc (.b r))], [.rows 0 (.e110 l0), .rows 0 (.e110 l1)]⟩
noncomputable def Q44 : Mean Rw := fun k a h Z K => match a, h with
  | [.w (.c (.rw 0)), .w (.c (.rw 1))], [.rows 0 (.e110 l0), .rows 0 (.e110 l1)] => (laws_eqLotS.f k l0 l1).bind fun r => K (o44 l0 l1 r)
  | _, _ => none
noncomputable def q44 : Cal Rw := ⟨44, false, Q44⟩
noncomputable def O44 : List (Cal Rw) := [q106]
noncomputable def C44_0 : Nat → St Rw → Option (Out Rw) := fun k st => match st with
  | ⟨27, 2, 2, [(0, .w (.c (.rw 0))), (1, .w (.c (.rw 1))), (5, .w (.c (.sc (.i .i64 x5))))], [(0, .rows 0 (.e110 l0)), (1, .rows 0 (.e110 l1))]⟩ => (laws_eqLotS.l0 k l0 l1 x5).bind fun r => some (o44 l0 l1 r)
  | _ => none
noncomputable def K44 : List (Cut Rw) := [⟨[false, true, false, true, true], [0, 1, 5], C44_0⟩]
theorem h44_0 (k : Nat) (st : St Rw) (out : Out Rw) (h : C44_0 (k + 1) st = some out) : sg Tryz.prog O44 K44 Tryz.f44 k [false, true, false, true, true] st = some out := by
  unfold C44_0 at h; split at h
  · rename_i x5 l0 l1
    exact Lo.of (b := (if x5 < (l0.length : Int) then (if 0 ≤ x5 then (if x5 < (l0.length : Int) then (if 0 ≤ x5 then (if x5 < (l1.length : Int) then ((laws_eqLot.f (rd_T110 l0 x5).f0 (rd_T110 l0 x5).f1 (rd_T110 l0 x5).f2 (rd_T110 l0 x5).f3 (rd_T110 l0 x5).f4 (rd_T110 l1 x5).f0 (rd_T110 l1 x5).f1 (rd_T110 l1 x5).f2 (rd_T110 l1 x5).f3 (rd_T110 l1 x5).f4).bind fun r4 => (if r4 = true then ((laws_eqLotS.l0 k l0 l1 (RowKit.wrap64 (x5 + 1))).bind fun r => some (o44 l0 l1 r)) else (some (o44 l0 l1 false)))) else none) else none) else none) else none) else (some (o44 l0 l1 true)))) (by kernel_rfl) (by rw [laws_eqLotS.l0]; exact lo_) _ h
  · cases h
theorem d44 : Sound Tryz.prog q44 := fn_d (O := O44) (cs := K44) (cons_ d106 nil_) mixed Tryz.func44 (cons_ (fun st => by show C44_0 0 st = none; unfold C44_0; split <;> rfl) nil_) (cons_ h44_0 nil_) fun k a h Z K z e => by
  unfold Q44 at e; split at e
  · rename_i l0 l1
    exact ent e (Lo.of (b := (if (l0.length : Int) = (l1.length : Int) then ((laws_eqLotS.l0 k l0 l1 0).bind fun r => some (o44 l0 l1 r)) else (some (o44 l0 l1 false)))) (by kernel_rfl) (by unfold laws_eqLotS.f; exact lo_))
  · cases e
noncomputable def o107 (r : Bool) : Out Rw := ⟨[.c (.sc (.b r))], []⟩
noncomputable def Q107 : Mean Rw := fun k a h Z K => match a, h with
  | [.w (.ag [.sc (.i .i64 a0_0), .sc (.i .i64 a0_1), .sc (.i .i64 a0_2), .sc (.i .i64 a0_3), .sc (.i .i64 a0_4), .sc (.i .i64 a0_5), .sc (.i .i64 a0_6), .sc (.i .i64 a0_7)]), .w (.ag [.sc (.i .i64 a1_0), .sc (.i .i64 a1_1), .sc (.i .i64 a1_2), .sc (.i .i64 a1_3), .sc (.i .i64 a1_4), .sc (.i .i64 a1_5), .sc (.i .i64 a1_6), .sc (.i .i64 a1_7)])], [] => (laws_eqTrade.f a0_0 a0_1 a0_2 a0_3 a0_4 a0_5 a0_6 a0_7 a1_0 a1_1 a1_2 a1_3 a1_4 a1_5 a1_6 a1_7).bind fun r => K (o107 r)
  | _, _ => none
noncomputable def q107 : Cal Rw := ⟨107, false, Q107⟩
noncomputable def O107 : List (Cal Rw) := []
noncomputable def K107 : List (Cut Rw) := []
theorem d107 : Sound Tryz.prog q107 := fn_d (O := O107) (cs := K107) nil_ mixed Tryz.func107 nil_ nil_ fun k a h Z K z e => by
  unfold Q107 at e; split at e
  · rename_i a0_0 a0_1 a0_2 a0_3 a0_4 a0_5 a0_6 a0_7 a1_0 a1_1 a1_2 a1_3 a1_4 a1_5 a1_6 a1_7
    exact ent e (Lo.of (b := (if a0_0 = a1_0 then (if a0_1 = a1_1 then (if a0_2 = a1_2 then (if a0_3 = a1_3 then (if a0_4 = a1_4 then (if a0_5 = a1_5 then (if a0_6 = a1_6 then (if a0_7 = a1_7 then (some (o107 true)) else (some (o107 false))) else (some (o107 false))) else (some (o107 false))) else (some (o107 false))) else (some (o107 false))) else (some (o107 false))) else (some (o107 false))) else (some (o107 false)))) (by kernel_rfl) (by unfold laws_eqTrade.f; exact lo_))
  · cases e
noncomputable def o45 (l0 : List S60) (l1 : List S60) (r : Bool) : Out Rw := ⟨[.c (.sc (.b r))], [.rows 0 (.e60 l0), .rows 0 (.e60 l1)]⟩
noncomputable def Q45 : Mean Rw := fun k a h Z K => match a, h with
  | [.w (.c (.rw 0)), .w (.c (.rw 1))], [.rows 0 (.e60 l0), .rows 0 (.e60 l1)] => (laws_eqTradeS.f k l0 l1).bind fun r => K (o45 l0 l1 r)
  | _, _ => none
noncomputable def q45 : Cal Rw := ⟨45, false, Q45⟩
noncomputable def O45 : List (Cal Rw) := [q107]
noncomputable def C45_0 : Nat → St Rw → Option (Out Rw) := fun k st => match st with
  | ⟨27, 2, 2, [(0, .w (.c (.rw 0))), (1, .w (.c (.rw 1))), (5, .w (.c (.sc (.i .i64 x5))))], [(0, .rows 0 (.e60 l0)), (1, .rows 0 (.e60 l1))]⟩ => (laws_eqTradeS.l0 k l0 l1 x5).bind fun r => some (o45 l0 l1 r)
  | _ => none
noncomputable def K45 : List (Cut Rw) := [⟨[false, true, false, true, true], [0, 1, 5], C45_0⟩]
theorem h45_0 (k : Nat) (st : St Rw) (out : Out Rw) (h : C45_0 (k + 1) st = some out) : sg Tryz.prog O45 K45 Tryz.f45 k [false, true, false, true, true] st = some out := by
  unfold C45_0 at h; split at h
  · rename_i x5 l0 l1
    exact Lo.of (b := (if x5 < (l0.length : Int) then (if 0 ≤ x5 then (if x5 < (l0.length : Int) then (if 0 ≤ x5 then (if x5 < (l1.length : Int) then ((laws_eqTrade.f (rd_T60 l0 x5).f0 (rd_T60 l0 x5).f1 (rd_T60 l0 x5).f2 (rd_T60 l0 x5).f3 (rd_T60 l0 x5).f4 (rd_T60 l0 x5).f5 (rd_T60 l0 x5).f6 (rd_T60 l0 x5).f7 (rd_T60 l1 x5).f0 (rd_T60 l1 x5).f1 (rd_T60 l1 x5).f2 (rd_T60 l1 x5).f3 (rd_T60 l1 x5).f4 (rd_T60 l1 x5).f5 (rd_T60 l1 x5).f6 (rd_T60 l1 x5).f7).bind fun r4 => (if r4 = true then ((laws_eqTradeS.l0 k l0 l1 (RowKit.wrap64 (x5 + 1))).bind fun r => some (o45 l0 l1 r)) else (some (o45 l0 l1 false)))) else none) else none) else none) else none) else (some (o45 l0 l1 true)))) (by kernel_rfl) (by rw [laws_eqTradeS.l0]; exact lo_) _ h
  · cases h
theorem d45 : Sound Tryz.prog q45 := fn_d (O := O45) (cs := K45) (cons_ d107 nil_) mixed Tryz.func45 (cons_ (fun st => by show C45_0 0 st = none; unfold C45_0; split <;> rfl) nil_) (cons_ h45_0 nil_) fun k a h Z K z e => by
  unfold Q45 at e; split at e
  · rename_i l0 l1
    exact ent e (Lo.of (b := (if (l0.length : Int) = (l1.length : Int) then ((laws_eqTradeS.l0 k l0 l1 0).bind fun r => some (o45 l0 l1 r)) else (some (o45 l0 l1 false)))) (by kernel_rfl) (by unfold laws_eqTradeS.f; exact lo_))
  · cases e
noncomputable def o12 (l0_0 : List S80) (l0_1 : List S84) (l0_2 : List S106) (l0_3 : List S110) (l0_4 : List S60) (l1_0 : List S80) (l1_1 : List S84) (l1_2 : List S106) (l1_3 : List S110) (l1_4 : List S60) (r : Bool) : Out Rw := ⟨[.c (.sc (.b r))], [.rows 0 (.e80 l0_0), .rows 0 (.e84 l0_1), .rows 0 (.e106 l0_2), .rows 0 (.e110 l0_3), .rows 0 (.e60 l0_4), .rows 0 (.e80 l1_0), .rows 0 (.e84 l1_1), .rows 0 (.e106 l1_2), .rows 0 (.e110 l1_3), .rows 0 (.e60 l1_4)]⟩
noncomputable def Q12 : Mean Rw := fun k a h Z K => match a, h with
  | [.w (.ag [.rw 0, .rw 1, .rw 2, .rw 3, .rw 4, .sc (.i .i64 a0_5)]), .w (.ag [.rw 5, .rw 6, .rw 7, .rw 8, .rw 9, .sc (.i .i64 a1_5)])], [.rows 0 (.e80 l0_0), .rows 0 (.e84 l0_1), .rows 0 (.e106 l0_2), .rows 0 (.e110 l0_3), .rows 0 (.e60 l0_4), .rows 0 (.e80 l1_0), .rows 0 (.e84 l1_1), .rows 0 (.e106 l1_2), .rows 0 (.e110 l1_3), .rows 0 (.e60 l1_4)] => (laws_eqBooks.f k l0_0 l0_1 l0_2 l0_3 l0_4 a0_5 l1_0 l1_1 l1_2 l1_3 l1_4 a1_5).bind fun r => K (o12 l0_0 l0_1 l0_2 l0_3 l0_4 l1_0 l1_1 l1_2 l1_3 l1_4 r)
  | _, _ => none
noncomputable def q12 : Cal Rw := ⟨12, false, Q12⟩
noncomputable def O12 : List (Cal Rw) := [q41, q42, q43, q44, q45]
noncomputable def K12 : List (Cut Rw) := []
theorem d12 : Sound Tryz.prog q12 := fn_d (O := O12) (cs := K12) (cons_ d41 (cons_ d42 (cons_ d43 (cons_ d44 (cons_ d45 nil_))))) mixed Tryz.func12 nil_ nil_ fun k a h Z K z e => by
  unfold Q12 at e; split at e
  · rename_i a0_5 a1_5 l0_0 l0_1 l0_2 l0_3 l0_4 l1_0 l1_1 l1_2 l1_3 l1_4
    exact ent e (Lo.of (b := ((laws_eqAccountS.f k l0_0 l1_0).bind fun r13 => (if r13 = true then ((laws_eqInstrS.f k l0_1 l1_1).bind fun r14 => (if r14 = true then ((laws_eqBalS.f k l0_2 l1_2).bind fun r15 => (if r15 = true then ((laws_eqLotS.f k l0_3 l1_3).bind fun r16 => (if r16 = true then ((laws_eqTradeS.f k l0_4 l1_4).bind fun r17 => (if r17 = true then (if a0_5 = a1_5 then (some (o12 l0_0 l0_1 l0_2 l0_3 l0_4 l1_0 l1_1 l1_2 l1_3 l1_4 true)) else (some (o12 l0_0 l0_1 l0_2 l0_3 l0_4 l1_0 l1_1 l1_2 l1_3 l1_4 false))) else (some (o12 l0_0 l0_1 l0_2 l0_3 l0_4 l1_0 l1_1 l1_2 l1_3 l1_4 false)))) else (some (o12 l0_0 l0_1 l0_2 l0_3 l0_4 l1_0 l1_1 l1_2 l1_3 l1_4 false)))) else (some (o12 l0_0 l0_1 l0_2 l0_3 l0_4 l1_0 l1_1 l1_2 l1_3 l1_4 false)))) else (some (o12 l0_0 l0_1 l0_2 l0_3 l0_4 l1_0 l1_1 l1_2 l1_3 l1_4 false)))) else (some (o12 l0_0 l0_1 l0_2 l0_3 l0_4 l1_0 l1_1 l1_2 l1_3 l1_4 false))))) (by kernel_rfl) (by unfold laws_eqBooks.f; exact lo_))
  · cases e
noncomputable def o46 (r : Int × (List (S80))) : Out Rw := ⟨[.c (.sc (.i .i64 r.1))], [.rows 1 (.e80 r.2)]⟩
noncomputable def Q46 : Mean Rw := fun k a h Z K => match a, h with
  | [.w (.c (.rw 0)), .w (.c (.sc (.i .i64 a1)))], [.rows 1 (.e80 l0)] => (laws_markAccountS.f k l0 a1).bind fun r => K (o46 r)
  | _, _ => none
noncomputable def q46 : Cal Rw := ⟨46, true, Q46⟩
noncomputable def O46 : List (Cal Rw) := []
noncomputable def C46_0 : Nat → St Rw → Option (Out Rw) := fun k st => match st with
  | ⟨27, 1, 1, [(0, .w (.c (.rw 0))), (1, .w (.c (.sc (.i .i64 x1)))), (5, .w (.c (.sc (.i .i64 x5))))], [(0, .rows 1 (.e80 l0))]⟩ => (laws_markAccountS.l0 k l0 x1 x5).bind fun r => some (o46 r)
  | _ => none
noncomputable def K46 : List (Cut Rw) := [⟨[false, true, false, true], [0, 1, 5], C46_0⟩]
theorem h46_0 (k : Nat) (st : St Rw) (out : Out Rw) (h : C46_0 (k + 1) st = some out) : sg Tryz.prog O46 K46 Tryz.f46 k [false, true, false, true] st = some out := by
  unfold C46_0 at h; split at h
  · rename_i x1 x5 l0
    exact Lo.of (b := (if x5 < (l0.length : Int) then (if 0 ≤ x5 then (if x5 < (l0.length : Int) then ((some (l0.set x5.toNat (⟨x1, (rd_T80 l0 x5).f1⟩ : S80))).bind fun y4 => (if 0 ≤ x5 then (if x5 < (y4.length : Int) then ((some (y4.set x5.toNat (⟨(rd_T80 y4 x5).f0, RowKit.wrap64 (x1 + 1)⟩ : S80))).bind fun y5 => ((laws_markAccountS.l0 k y5 (RowKit.wrap64 (RowKit.wrap64 (x1 + 1) + 1)) (RowKit.wrap64 (x5 + 1))).bind fun r => some (o46 r))) else none) else none)) else none) else none) else (some (o46 (x1, l0))))) (by kernel_rfl) (by rw [laws_markAccountS.l0]; exact lo_) _ h
  · cases h
theorem d46 : Sound Tryz.prog q46 := fn_d (O := O46) (cs := K46) nil_ mixed Tryz.func46 (cons_ (fun st => by show C46_0 0 st = none; unfold C46_0; split <;> rfl) nil_) (cons_ h46_0 nil_) fun k a h Z K z e => by
  unfold Q46 at e; split at e
  · rename_i a1 l0
    exact ent e (Lo.of (b := ((laws_markAccountS.l0 k l0 a1 0).bind fun r => some (o46 r))) (by kernel_rfl) (by unfold laws_markAccountS.f; exact lo_))
  · cases e
noncomputable def o47 (r : Int × (List (S84))) : Out Rw := ⟨[.c (.sc (.i .i64 r.1))], [.rows 1 (.e84 r.2)]⟩
noncomputable def Q47 : Mean Rw := fun k a h Z K => match a, h with
  | [.w (.c (.rw 0)), .w (.c (.sc (.i .i64 a1)))], [.rows 1 (.e84 l0)] => (laws_markInstrS.f k l0 a1).bind fun r => K (o47 r)
  | _, _ => none
noncomputable def q47 : Cal Rw := ⟨47, true, Q47⟩
noncomputable def O47 : List (Cal Rw) := []
noncomputable def C47_0 : Nat → St Rw → Option (Out Rw) := fun k st => match st with
  | ⟨27, 1, 1, [(0, .w (.c (.rw 0))), (1, .w (.c (.sc (.i .i64 x1)))), (5, .w (.c (.sc (.i .i64 x5))))], [(0, .rows 1 (.e84 l0))]⟩ => (laws_markInstrS.l0 k l0 x1 x5).bind fun r => some (o47 r)
  | _ => none
noncomputable def K47 : List (Cut Rw) := [⟨[false, true, false, true], [0, 1, 5], C47_0⟩]
theorem h47_0 (k : Nat) (st : St Rw) (out : Out Rw) (h : C47_0 (k + 1) st = some out) : sg Tryz.prog O47 K47 Tryz.f47 k [false, true, false, true] st = some out := by
  unfold C47_0 at h; split at h
  · rename_i x1 x5 l0
    exact Lo.of (b := (if x5 < (l0.length : Int) then (if 0 ≤ x5 then (if x5 < (l0.length : Int) then ((some (l0.set x5.toNat (⟨x1, (rd_T84 l0 x5).f1⟩ : S84))).bind fun y4 => (if 0 ≤ x5 then (if x5 < (y4.length : Int) then ((some (y4.set x5.toNat (⟨(rd_T84 y4 x5).f0, RowKit.wrap64 (x1 + 1)⟩ : S84))).bind fun y5 => ((laws_markInstrS.l0 k y5 (RowKit.wrap64 (RowKit.wrap64 (x1 + 1) + 1)) (RowKit.wrap64 (x5 + 1))).bind fun r => some (o47 r))) else none) else none)) else none) else none) else (some (o47 (x1, l0))))) (by kernel_rfl) (by rw [laws_markInstrS.l0]; exact lo_) _ h
  · cases h
theorem d47 : Sound Tryz.prog q47 := fn_d (O := O47) (cs := K47) nil_ mixed Tryz.func47 (cons_ (fun st => by show C47_0 0 st = none; unfold C47_0; split <;> rfl) nil_) (cons_ h47_0 nil_) fun k a h Z K z e => by
  unfold Q47 at e; split at e
  · rename_i a1 l0
    exact ent e (Lo.of (b := ((laws_markInstrS.l0 k l0 a1 0).bind fun r => some (o47 r))) (by kernel_rfl) (by unfold laws_markInstrS.f; exact lo_))
  · cases e
noncomputable def o48 (r : Int × (List (S106))) : Out Rw := ⟨[.c (.sc (.i .i64 r.1))], [.rows 1 (.e106 r.2)]⟩
noncomputable def Q48 : Mean Rw := fun k a h Z K => match a, h with
  | [.w (.c (.rw 0)), .w (.c (.sc (.i .i64 a1)))], [.rows 1 (.e106 l0)] => (laws_markBalS.f k l0 a1).bind fun r => K (o48 r)
  | _, _ => none
noncomputable def q48 : Cal Rw := ⟨48, true, Q48⟩
noncomputable def O48 : List (Cal Rw) := []
noncomputable def C48_0 : Nat → St Rw → Option (Out Rw) := fun k st => match st with
  | ⟨34, 1, 1, [(0, .w (.c (.rw 0))), (1, .w (.c (.sc (.i .i64 x1)))), (5, .w (.c (.sc (.i .i64 x5))))], [(0, .rows 1 (.e106 l0))]⟩ => (laws_markBalS.l0 k l0 x1 x5).bind fun r => some (o48 r)
  | _ => none
noncomputable def K48 : List (Cut Rw) := [⟨[false, true, false, true], [0, 1, 5], C48_0⟩]
theorem h48_0 (k : Nat) (st : St Rw) (out : Out Rw) (h : C48_0 (k + 1) st = some out) : sg Tryz.prog O48 K48 Tryz.f48 k [false, true, false, true] st = some out := by
  unfold C48_0 at h; split at h
  · rename_i x1 x5 l0
    exact Lo.of (b := (if x5 < (l0.length : Int) then (if 0 ≤ x5 then (if x5 < (l0.length : Int) then ((some (l0.set x5.toNat (⟨x1, (rd_T106 l0 x5).f1, (rd_T106 l0 x5).f2⟩ : S106))).bind fun y4 => (if 0 ≤ x5 then (if x5 < (y4.length : Int) then ((some (y4.set x5.toNat (⟨(rd_T106 y4 x5).f0, RowKit.wrap64 (x1 + 1), (rd_T106 y4 x5).f2⟩ : S106))).bind fun y5 => (if 0 ≤ x5 then (if x5 < (y5.length : Int) then ((some (y5.set x5.toNat (⟨(rd_T106 y5 x5).f0, (rd_T106 y5 x5).f1, RowKit.wrap64 (RowKit.wrap64 (x1 + 1) + 1)⟩ : S106))).bind fun y6 => ((laws_markBalS.l0 k y6 (RowKit.wrap64 (RowKit.wrap64 (RowKit.wrap64 (x1 + 1) + 1) + 1)) (RowKit.wrap64 (x5 + 1))).bind fun r => some (o48 r))) else none) else none)) else none) else none)) else none) else none) else (some (o48 (x1, l0))))) (by kernel_rfl) (by rw [laws_markBalS.l0]; exact lo_) _ h
  · cases h
theorem d48 : Sound Tryz.prog q48 := fn_d (O := O48) (cs := K48) nil_ mixed Tryz.func48 (cons_ (fun st => by show C48_0 0 st = none; unfold C48_0; split <;> rfl) nil_) (cons_ h48_0 nil_) fun k a h Z K z e => by
  unfold Q48 at e; split at e
  · rename_i a1 l0
    exact ent e (Lo.of (b := ((laws_markBalS.l0 k l0 a1 0).bind fun r => some (o48 r))) (by kernel_rfl) (by unfold laws_markBalS.f; exact lo_))
  · cases e
noncomputable def o49 (r : Int × (List (S110))) : Out Rw := ⟨[.c (.sc (.i .i64 r.1))], [.rows 1 (.e110 r.2)]⟩
noncomputable def Q49 : Mean Rw := fun k a h Z K => match a, h with
  | [.w (.c (.rw 0)), .w (.c (.sc (.i .i64 a1)))], [.rows 1 (.e110 l0)] => (laws_markLotS.f k l0 a1).bind fun r => K (o49 r)
  | _, _ => none
noncomputable def q49 : Cal Rw := ⟨49, true, Q49⟩
noncomputable def O49 : List (Cal Rw) := []
noncomputable def C49_0 : Nat → St Rw → Option (Out Rw) := fun k st => match st with
  | ⟨48, 1, 1, [(0, .w (.c (.rw 0))), (1, .w (.c (.sc (.i .i64 x1)))), (5, .w (.c (.sc (.i .i64 x5))))], [(0, .rows 1 (.e110 l0))]⟩ => (laws_markLotS.l0 k l0 x1 x5).bind fun r => some (o49 r)
  | _ => none
noncomputable def K49 : List (Cut Rw) := [⟨[false, true, false, true], [0, 1, 5], C49_0⟩]
theorem h49_0 (k : Nat) (st : St Rw) (out : Out Rw) (h : C49_0 (k + 1) st = some out) : sg Tryz.prog O49 K49 Tryz.f49 k [false, true, false, true] st = some out := by
  unfold C49_0 at h; split at h
  · rename_i x1 x5 l0
    exact Lo.of (b := (if x5 < (l0.length : Int) then (if 0 ≤ x5 then (if x5 < (l0.length : Int) then ((some (l0.set x5.toNat (⟨x1, (rd_T110 l0 x5).f1, (rd_T110 l0 x5).f2, (rd_T110 l0 x5).f3, (rd_T110 l0 x5).f4⟩ : S110))).bind fun y4 => (if 0 ≤ x5 then (if x5 < (y4.length : Int) then ((some (y4.set x5.toNat (⟨(rd_T110 y4 x5).f0, RowKit.wrap64 (x1 + 1), (rd_T110 y4 x5).f2, (rd_T110 y4 x5).f3, (rd_T110 y4 x5).f4⟩ : S110))).bind fun y5 => (if 0 ≤ x5 then (if x5 < (y5.length : Int) then ((some (y5.set x5.toNat (⟨(rd_T110 y5 x5).f0, (rd_T110 y5 x5).f1, RowKit.wrap64 (RowKit.wrap64 (x1 + 1) + 1), (rd_T110 y5 x5).f3, (rd_T110 y5 x5).f4⟩ : S110))).bind fun y6 => (if 0 ≤ x5 then (if x5 < (y6.length : Int) then ((some (y6.set x5.toNat (⟨(rd_T110 y6 x5).f0, (rd_T110 y6 x5).f1, (rd_T110 y6 x5).f2, RowKit.wrap64 (RowKit.wrap64 (RowKit.wrap64 (x1 + 1) + 1) + 1), (rd_T110 y6 x5).f4⟩ : S110))).bind fun y7 => (if 0 ≤ x5 then (if x5 < (y7.length : Int) then ((some (y7.set x5.toNat (⟨(rd_T110 y7 x5).f0, (rd_T110 y7 x5).f1, (rd_T110 y7 x5).f2, (rd_T110 y7 x5).f3, RowKit.wrap64 (RowKit.wrap64 (RowKit.wrap64 (RowKit.wrap64 (x1 + 1) + 1) + 1) + 1)⟩ : S110))).bind fun y8 => ((laws_markLotS.l0 k y8 (RowKit.wrap64 (RowKit.wrap64 (RowKit.wrap64 (RowKit.wrap64 (RowKit.wrap64 (x1 + 1) + 1) + 1) + 1) + 1)) (RowKit.wrap64 (x5 + 1))).bind fun r => some (o49 r))) else none) else none)) else none) else none)) else none) else none)) else none) else none)) else none) else none) else (some (o49 (x1, l0))))) (by kernel_rfl) (by rw [laws_markLotS.l0]; exact lo_) _ h
  · cases h
theorem d49 : Sound Tryz.prog q49 := fn_d (O := O49) (cs := K49) nil_ mixed Tryz.func49 (cons_ (fun st => by show C49_0 0 st = none; unfold C49_0; split <;> rfl) nil_) (cons_ h49_0 nil_) fun k a h Z K z e => by
  unfold Q49 at e; split at e
  · rename_i a1 l0
    exact ent e (Lo.of (b := ((laws_markLotS.l0 k l0 a1 0).bind fun r => some (o49 r))) (by kernel_rfl) (by unfold laws_markLotS.f; exact lo_))
  · cases e
noncomputable def o50 (r : Int × (List (S60))) : Out Rw := ⟨[.c (.sc (.i .i64 r.1))], [.rows 1 (.e60 r.2)]⟩
noncomputable def Q50 : Mean Rw := fun k a h Z K => match a, h with
  | [.w (.c (.rw 0)), .w (.c (.sc (.i .i64 a1)))], [.rows 1 (.e60 l0)] => (laws_markTradeS.f k l0 a1).bind fun r => K (o50 r)
  | _, _ => none
noncomputable def q50 : Cal Rw := ⟨50, true, Q50⟩
noncomputable def O50 : List (Cal Rw) := []
noncomputable def C50_0 : Nat → St Rw → Option (Out Rw) := fun k st => match st with
  | ⟨69, 1, 1, [(0, .w (.c (.rw 0))), (1, .w (.c (.sc (.i .i64 x1)))), (5, .w (.c (.sc (.i .i64 x5))))], [(0, .rows 1 (.e60 l0))]⟩ => (laws_markTradeS.l0 k l0 x1 x5).bind fun r => some (o50 r)
  | _ => none
noncomputable def K50 : List (Cut Rw) := [⟨[false, true, false, true], [0, 1, 5], C50_0⟩]
theorem h50_0 (k : Nat) (st : St Rw) (out : Out Rw) (h : C50_0 (k + 1) st = some out) : sg Tryz.prog O50 K50 Tryz.f50 k [false, true, false, true] st = some out := by
  unfold C50_0 at h; split at h
  · rename_i x1 x5 l0
    exact Lo.of (b := (if x5 < (l0.length : Int) then (if 0 ≤ x5 then (if x5 < (l0.length : Int) then ((some (l0.set x5.toNat (⟨x1, (rd_T60 l0 x5).f1, (rd_T60 l0 x5).f2, (rd_T60 l0 x5).f3, (rd_T60 l0 x5).f4, (rd_T60 l0 x5).f5, (rd_T60 l0 x5).f6, (rd_T60 l0 x5).f7⟩ : S60))).bind fun y4 => (if 0 ≤ x5 then (if x5 < (y4.length : Int) then ((some (y4.set x5.toNat (⟨(rd_T60 y4 x5).f0, RowKit.wrap64 (x1 + 1), (rd_T60 y4 x5).f2, (rd_T60 y4 x5).f3, (rd_T60 y4 x5).f4, (rd_T60 y4 x5).f5, (rd_T60 y4 x5).f6, (rd_T60 y4 x5).f7⟩ : S60))).bind fun y5 => (if 0 ≤ x5 then (if x5 < (y5.length : Int) then ((some (y5.set x5.toNat (⟨(rd_T60 y5 x5).f0, (rd_T60 y5 x5).f1, RowKit.wrap64 (RowKit.wrap64 (x1 + 1) + 1), (rd_T60 y5 x5).f3, (rd_T60 y5 x5).f4, (rd_T60 y5 x5).f5, (rd_T60 y5 x5).f6, (rd_T60 y5 x5).f7⟩ : S60))).bind fun y6 => (if 0 ≤ x5 then (if x5 < (y6.length : Int) then ((some (y6.set x5.toNat (⟨(rd_T60 y6 x5).f0, (rd_T60 y6 x5).f1, (rd_T60 y6 x5).f2, RowKit.wrap64 (RowKit.wrap64 (RowKit.wrap64 (x1 + 1) + 1) + 1), (rd_T60 y6 x5).f4, (rd_T60 y6 x5).f5, (rd_T60 y6 x5).f6, (rd_T60 y6 x5).f7⟩ : S60))).bind fun y7 => (if 0 ≤ x5 then (if x5 < (y7.length : Int) then ((some (y7.set x5.toNat (⟨(rd_T60 y7 x5).f0, (rd_T60 y7 x5).f1, (rd_T60 y7 x5).f2, (rd_T60 y7 x5).f3, RowKit.wrap64 (RowKit.wrap64 (RowKit.wrap64 (RowKit.wrap64 (x1 + 1) + 1) + 1) + 1), (rd_T60 y7 x5).f5, (rd_T60 y7 x5).f6, (rd_T60 y7 x5).f7⟩ : S60))).bind fun y8 => (if 0 ≤ x5 then (if x5 < (y8.length : Int) then ((some (y8.set x5.toNat (⟨(rd_T60 y8 x5).f0, (rd_T60 y8 x5).f1, (rd_T60 y8 x5).f2, (rd_T60 y8 x5).f3, (rd_T60 y8 x5).f4, RowKit.wrap64 (RowKit.wrap64 (RowKit.wrap64 (RowKit.wrap64 (RowKit.wrap64 (x1 + 1) + 1) + 1) + 1) + 1), (rd_T60 y8 x5).f6, (rd_T60 y8 x5).f7⟩ : S60))).bind fun y9 => (if 0 ≤ x5 then (if x5 < (y9.length : Int) then ((some (y9.set x5.toNat (⟨(rd_T60 y9 x5).f0, (rd_T60 y9 x5).f1, (rd_T60 y9 x5).f2, (rd_T60 y9 x5).f3, (rd_T60 y9 x5).f4, (rd_T60 y9 x5).f5, RowKit.wrap64 (RowKit.wrap64 (RowKit.wrap64 (RowKit.wrap64 (RowKit.wrap64 (RowKit.wrap64 (x1 + 1) + 1) + 1) + 1) + 1) + 1), (rd_T60 y9 x5).f7⟩ : S60))).bind fun y10 => (if 0 ≤ x5 then (if x5 < (y10.length : Int) then ((some (y10.set x5.toNat (⟨(rd_T60 y10 x5).f0, (rd_T60 y10 x5).f1, (rd_T60 y10 x5).f2, (rd_T60 y10 x5).f3, (rd_T60 y10 x5).f4, (rd_T60 y10 x5).f5, (rd_T60 y10 x5).f6, RowKit.wrap64 (RowKit.wrap64 (RowKit.wrap64 (RowKit.wrap64 (RowKit.wrap64 (RowKit.wrap64 (RowKit.wrap64 (x1 + 1) + 1) + 1) + 1) + 1) + 1) + 1)⟩ : S60))).bind fun y11 => ((laws_markTradeS.l0 k y11 (RowKit.wrap64 (RowKit.wrap64 (RowKit.wrap64 (RowKit.wrap64 (RowKit.wrap64 (RowKit.wrap64 (RowKit.wrap64 (RowKit.wrap64 (x1 + 1) + 1) + 1) + 1) + 1) + 1) + 1) + 1)) (RowKit.wrap64 (x5 + 1))).bind fun r => some (o50 r))) else none) else none)) else none) else none)) else none) else none)) else none) else none)) else none) else none)) else none) else none)) else none) else none)) else none) else none) else (some (o50 (x1, l0))))) (by kernel_rfl) (by rw [laws_markTradeS.l0]; exact lo_) _ h
  · cases h
theorem d50 : Sound Tryz.prog q50 := fn_d (O := O50) (cs := K50) nil_ mixed Tryz.func50 (cons_ (fun st => by show C50_0 0 st = none; unfold C50_0; split <;> rfl) nil_) (cons_ h50_0 nil_) fun k a h Z K z e => by
  unfold Q50 at e; split at e
  · rename_i a1 l0
    exact ent e (Lo.of (b := ((laws_markTradeS.l0 k l0 a1 0).bind fun r => some (o50 r))) (by kernel_rfl) (by unfold laws_markTradeS.f; exact lo_))
  · cases e
noncomputable def o13 (r : Int × (List (S80)) × (List (S84)) × (List (S106)) × (List (S110)) × (List (S60))) : Out Rw := ⟨[.c (.sc (.i .i64 r.1))], [.rows 1 (.e80 r.2.1), .rows 1 (.e84 r.2.2.1), .rows 1 (.e106 r.2.2.2.1), .rows 1 (.e110 r.2.2.2.2.1), .rows 1 (.e60 r.2.2.2.2.2)]⟩
noncomputable def Q13 : Mean Rw := fun k a h Z K => match a, h with
  | [.w (.ag [.rw 0, .rw 1, .rw 2, .rw 3, .rw 4, .sc (.i .i64 a0_5)]), .w (.c (.sc (.i .i64 a1)))], [.rows 1 (.e80 l0_0), .rows 1 (.e84 l0_1), .rows 1 (.e106 l0_2), .rows 1 (.e110 l0_3), .rows 1 (.e60 l0_4)] => (laws_markBooks.f k l0_0 l0_1 l0_2 l0_3 l0_4 a0_5 a1).bind fun r => K (o13 r)
  | _, _ => none
noncomputable def q13 : Cal Rw := ⟨13, true, Q13⟩
noncomputable def O13 : List (Cal Rw) := [q46, q47, q48, q49, q50]
noncomputable def K13 : List (Cut Rw) := []
theorem d13 : Sound Tryz.prog q13 := fn_d (O := O13) (cs := K13) (cons_ d46 (cons_ d47 (cons_ d48 (cons_ d49 (cons_ d50 nil_))))) mixed Tryz.func13 nil_ nil_ fun k a h Z K z e => by
  unfold Q13 at e; split at e
  · rename_i a0_5 a1 l0_0 l0_1 l0_2 l0_3 l0_4
    exact ent e (Lo.of (b := ((laws_markAccountS.f k l0_0 a1).bind fun r8 => ((laws_markInstrS.f k l0_1 r8.1).bind fun r9 => ((laws_markBalS.f k l0_2 r9.1).bind fun r10 => ((laws_markLotS.f k l0_3 r10.1).bind fun r11 => ((laws_markTradeS.f k l0_4 r11.1).bind fun r12 => (some (o13 (r12.1, r8.2, r9.2, r10.2, r11.2, r12.2))))))))) (by kernel_rfl) (by unfold laws_markBooks.f; exact lo_))
  · cases e
noncomputable def o51 (l0 : List S80) (r : Int) : Out Rw := ⟨[.c (.sc (.i .i64 r))], [.rows 0 (.e80 l0)]⟩
noncomputable def Q51 : Mean Rw := fun k a h Z K => match a, h with
  | [.w (.c (.rw 0)), .w (.c (.sc (.i .i64 a1)))], [.rows 0 (.e80 l0)] => (laws_heldAccountS.f k l0 a1).bind fun r => K (o51 l0 r)
  | _, _ => none
noncomputable def q51 : Cal Rw := ⟨51, false, Q51⟩
noncomputable def O51 : List (Cal Rw) := []
noncomputable def C51_0 : Nat → St Rw → Option (Out Rw) := fun k st => match st with
  | ⟨31, 1, 1, [(0, .w (.c (.rw 0))), (1, .w (.c (.sc (.i .i64 x1)))), (5, .w (.c (.sc (.i .i64 x5))))], [(0, .rows 0 (.e80 l0))]⟩ => (laws_heldAccountS.l0 k l0 x1 x5).bind fun r => some (o51 l0 r)
  | _ => none
noncomputable def K51 : List (Cut Rw) := [⟨[false, true, false, true], [0, 1, 5], C51_0⟩]
theorem h51_0 (k : Nat) (st : St Rw) (out : Out Rw) (h : C51_0 (k + 1) st = some out) : sg Tryz.prog O51 K51 Tryz.f51 k [false, true, false, true] st = some out := by
  unfold C51_0 at h; split at h
  · rename_i x1 x5 l0
    exact Lo.of (b := (if x5 < (l0.length : Int) then (if 0 ≤ x5 then (if x5 < (l0.length : Int) then (if (rd_T80 l0 x5).f0 = x1 then (if 0 ≤ x5 then (if x5 < (l0.length : Int) then (if (rd_T80 l0 x5).f1 = RowKit.wrap64 (x1 + 1) then ((laws_heldAccountS.l0 k l0 (RowKit.wrap64 (RowKit.wrap64 (x1 + 1) + 1)) (RowKit.wrap64 (x5 + 1))).bind fun r => some (o51 l0 r)) else (some (o51 l0 (-1)))) else none) else none) else (some (o51 l0 (-1)))) else none) else none) else (some (o51 l0 x1)))) (by kernel_rfl) (by rw [laws_heldAccountS.l0]; exact lo_) _ h
  · cases h
theorem d51 : Sound Tryz.prog q51 := fn_d (O := O51) (cs := K51) nil_ mixed Tryz.func51 (cons_ (fun st => by show C51_0 0 st = none; unfold C51_0; split <;> rfl) nil_) (cons_ h51_0 nil_) fun k a h Z K z e => by
  unfold Q51 at e; split at e
  · rename_i a1 l0
    exact ent e (Lo.of (b := ((laws_heldAccountS.l0 k l0 a1 0).bind fun r => some (o51 l0 r))) (by kernel_rfl) (by unfold laws_heldAccountS.f; exact lo_))
  · cases e
noncomputable def o52 (l0 : List S84) (r : Int) : Out Rw := ⟨[.c (.sc (.i .i64 r))], [.rows 0 (.e84 l0)]⟩
noncomputable def Q52 : Mean Rw := fun k a h Z K => match a, h with
  | [.w (.c (.rw 0)), .w (.c (.sc (.i .i64 a1)))], [.rows 0 (.e84 l0)] => (laws_heldInstrS.f k l0 a1).bind fun r => K (o52 l0 r)
  | _, _ => none
noncomputable def q52 : Cal Rw := ⟨52, false, Q52⟩
noncomputable def O52 : List (Cal Rw) := []
noncomputable def C52_0 : Nat → St Rw → Option (Out Rw) := fun k st => match st with
  | ⟨31, 1, 1, [(0, .w (.c (.rw 0))), (1, .w (.c (.sc (.i .i64 x1)))), (5, .w (.c (.sc (.i .i64 x5))))], [(0, .rows 0 (.e84 l0))]⟩ => (laws_heldInstrS.l0 k l0 x1 x5).bind fun r => some (o52 l0 r)
  | _ => none
noncomputable def K52 : List (Cut Rw) := [⟨[false, true, false, true], [0, 1, 5], C52_0⟩]
theorem h52_0 (k : Nat) (st : St Rw) (out : Out Rw) (h : C52_0 (k + 1) st = some out) : sg Tryz.prog O52 K52 Tryz.f52 k [false, true, false, true] st = some out := by
  unfold C52_0 at h; split at h
  · rename_i x1 x5 l0
    exact Lo.of (b := (if x5 < (l0.length : Int) then (if 0 ≤ x5 then (if x5 < (l0.length : Int) then (if (rd_T84 l0 x5).f0 = x1 then (if 0 ≤ x5 then (if x5 < (l0.length : Int) then (if (rd_T84 l0 x5).f1 = RowKit.wrap64 (x1 + 1) then ((laws_heldInstrS.l0 k l0 (RowKit.wrap64 (RowKit.wrap64 (x1 + 1) + 1)) (RowKit.wrap64 (x5 + 1))).bind fun r => some (o52 l0 r)) else (some (o52 l0 (-1)))) else none) else none) else (some (o52 l0 (-1)))) else none) else none) else (some (o52 l0 x1)))) (by kernel_rfl) (by rw [laws_heldInstrS.l0]; exact lo_) _ h
  · cases h
theorem d52 : Sound Tryz.prog q52 := fn_d (O := O52) (cs := K52) nil_ mixed Tryz.func52 (cons_ (fun st => by show C52_0 0 st = none; unfold C52_0; split <;> rfl) nil_) (cons_ h52_0 nil_) fun k a h Z K z e => by
  unfold Q52 at e; split at e
  · rename_i a1 l0
    exact ent e (Lo.of (b := ((laws_heldInstrS.l0 k l0 a1 0).bind fun r => some (o52 l0 r))) (by kernel_rfl) (by unfold laws_heldInstrS.f; exact lo_))
  · cases e
noncomputable def o53 (l0 : List S106) (r : Int) : Out Rw := ⟨[.c (.sc (.i .i64 r))], [.rows 0 (.e106 l0)]⟩
noncomputable def Q53 : Mean Rw := fun k a h Z K => match a, h with
  | [.w (.c (.rw 0)), .w (.c (.sc (.i .i64 a1)))], [.rows 0 (.e106 l0)] => (laws_heldBalS.f k l0 a1).bind fun r => K (o53 l0 r)
  | _, _ => none
noncomputable def q53 : Cal Rw := ⟨53, false, Q53⟩
noncomputable def O53 : List (Cal Rw) := []
noncomputable def C53_0 : Nat → St Rw → Option (Out Rw) := fun k st => match st with
  | ⟨40, 1, 1, [(0, .w (.c (.rw 0))), (1, .w (.c (.sc (.i .i64 x1)))), (5, .w (.c (.sc (.i .i64 x5))))], [(0, .rows 0 (.e106 l0))]⟩ => (laws_heldBalS.l0 k l0 x1 x5).bind fun r => some (o53 l0 r)
  | _ => none
noncomputable def K53 : List (Cut Rw) := [⟨[false, true, false, true], [0, 1, 5], C53_0⟩]
theorem h53_0 (k : Nat) (st : St Rw) (out : Out Rw) (h : C53_0 (k + 1) st = some out) : sg Tryz.prog O53 K53 Tryz.f53 k [false, true, false, true] st = some out := by
  unfold C53_0 at h; split at h
  · rename_i x1 x5 l0
    exact Lo.of (b := (if x5 < (l0.length : Int) then (if 0 ≤ x5 then (if x5 < (l0.length : Int) then (if (rd_T106 l0 x5).f0 = x1 then (if 0 ≤ x5 then (if x5 < (l0.length : Int) then (if (rd_T106 l0 x5).f1 = RowKit.wrap64 (x1 + 1) then (if 0 ≤ x5 then (if x5 < (l0.length : Int) then (if (rd_T106 l0 x5).f2 = RowKit.wrap64 (RowKit.wrap64 (x1 + 1) + 1) then ((laws_heldBalS.l0 k l0 (RowKit.wrap64 (RowKit.wrap64 (RowKit.wrap64 (x1 + 1) + 1) + 1)) (RowKit.wrap64 (x5 + 1))).bind fun r => some (o53 l0 r)) else (some (o53 l0 (-1)))) else none) else none) else (some (o53 l0 (-1)))) else none) else none) else (some (o53 l0 (-1)))) else none) else none) else (some (o53 l0 x1)))) (by kernel_rfl) (by rw [laws_heldBalS.l0]; exact lo_) _ h
  · cases h
theorem d53 : Sound Tryz.prog q53 := fn_d (O := O53) (cs := K53) nil_ mixed Tryz.func53 (cons_ (fun st => by show C53_0 0 st = none; unfold C53_0; split <;> rfl) nil_) (cons_ h53_0 nil_) fun k a h Z K z e => by
  unfold Q53 at e; split at e
  · rename_i a1 l0
    exact ent e (Lo.of (b := ((laws_heldBalS.l0 k l0 a1 0).bind fun r => some (o53 l0 r))) (by kernel_rfl) (by unfold laws_heldBalS.f; exact lo_))
  · cases e
noncomputable def o54 (l0 : List S110) (r : Int) : Out Rw := ⟨[.c (.sc (.i .i64 r))], [.rows 0 (.e110 l0)]⟩
noncomputable def Q54 : Mean Rw := fun k a h Z K => match a, h with
  | [.w (.c (.rw 0)), .w (.c (.sc (.i .i64 a1)))], [.rows 0 (.e110 l0)] => (laws_heldLotS.f k l0 a1).bind fun r => K (o54 l0 r)
  | _, _ => none
noncomputable def q54 : Cal Rw := ⟨54, false, Q54⟩
noncomputable def O54 : List (Cal Rw) := []
noncomputable def C54_0 : Nat → St Rw → Option (Out Rw) := fun k st => match st with
  | ⟨58, 1, 1, [(0, .w (.c (.rw 0))), (1, .w (.c (.sc (.i .i64 x1)))), (5, .w (.c (.sc (.i .i64 x5))))], [(0, .rows 0 (.e110 l0))]⟩ => (laws_heldLotS.l0 k l0 x1 x5).bind fun r => some (o54 l0 r)
  | _ => none
noncomputable def K54 : List (Cut Rw) := [⟨[false, true, false, true], [0, 1, 5], C54_0⟩]
theorem h54_0 (k : Nat) (st : St Rw) (out : Out Rw) (h : C54_0 (k + 1) st = some out) : sg Tryz.prog O54 K54 Tryz.f54 k [false, true, false, true] st = some out := by
  unfold C54_0 at h; split at h
  · rename_i x1 x5 l0
    exact Lo.of (b := (if x5 < (l0.length : Int) then (if 0 ≤ x5 then (if x5 < (l0.length : Int) then (if (rd_T110 l0 x5).f0 = x1 then (if 0 ≤ x5 then (if x5 < (l0.length : Int) then (if (rd_T110 l0 x5).f1 = RowKit.wrap64 (x1 + 1) then (if 0 ≤ x5 then (if x5 < (l0.length : Int) then (if (rd_T110 l0 x5).f2 = RowKit.wrap64 (RowKit.wrap64 (x1 + 1) + 1) then (if 0 ≤ x5 then (if x5 < (l0.length : Int) then (if (rd_T110 l0 x5).f3 = RowKit.wrap64 (RowKit.wrap64 (RowKit.wrap64 (x1 + 1) + 1) + 1) then (if 0 ≤ x5 then (if x5 < (l0.length : Int) then (if (rd_T110 l0 x5).f4 = RowKit.wrap64 (RowKit.wrap64 (RowKit.wrap64 (RowKit.wrap64 (x1 + 1) + 1) + 1) + 1) then ((laws_heldLotS.l0 k l0 (RowKit.wrap64 (RowKit.wrap64 (RowKit.wrap64 (RowKit.wrap64 (RowKit.wrap64 (x1 + 1) + 1) + 1) + 1) + 1)) (RowKit.wrap64 (x5 + 1))).bind fun r => some (o54 l0 r)) else (some (o54 l0 (-1)))) else none) else none) else (some (o54 l0 (-1)))) else none) else none) else (some (o54 l0 (-1)))) else none) else none) else (some (o54 l0 (-1)))) else none) else none) else (some (o54 l0 (-1)))) else none) else none) else (some (o54 l0 x1)))) (by kernel_rfl) (by rw [laws_heldLotS.l0]; exact lo_) _ h
  · cases h
theorem d54 : Sound Tryz.prog q54 := fn_d (O := O54) (cs := K54) nil_ mixed Tryz.func54 (cons_ (fun st => by show C54_0 0 st = none; unfold C54_0; split <;> rfl) nil_) (cons_ h54_0 nil_) fun k a h Z K z e => by
  unfold Q54 at e; split at e
  · rename_i a1 l0
    exact ent e (Lo.of (b := ((laws_heldLotS.l0 k l0 a1 0).bind fun r => some (o54 l0 r))) (by kernel_rfl) (by unfold laws_heldLotS.f; exact lo_))
  · cases e
noncomputable def o55 (l0 : List S60) (r : Int) : Out Rw := ⟨[.c (.sc (.i .i64 r))], [.rows 0 (.e60 l0)]⟩
noncomputable def Q55 : Mean Rw := fun k a h Z K => match a, h with
  | [.w (.c (.rw 0)), .w (.c (.sc (.i .i64 a1)))], [.rows 0 (.e60 l0)] => (laws_heldTradeS.f k l0 a1).bind fun r => K (o55 l0 r)
  | _, _ => none
noncomputable def q55 : Cal Rw := ⟨55, false, Q55⟩
noncomputable def O55 : List (Cal Rw) := []
noncomputable def C55_0 : Nat → St Rw → Option (Out Rw) := fun k st => match st with
  | ⟨85, 1, 1, [(0, .w (.c (.rw 0))), (1, .w (.c (.sc (.i .i64 x1)))), (5, .w (.c (.sc (.i .i64 x5))))], [(0, .rows 0 (.e60 l0))]⟩ => (laws_heldTradeS.l0 k l0 x1 x5).bind fun r => some (o55 l0 r)
  | _ => none
noncomputable def K55 : List (Cut Rw) := [⟨[false, true, false, true], [0, 1, 5], C55_0⟩]
theorem h55_0 (k : Nat) (st : St Rw) (out : Out Rw) (h : C55_0 (k + 1) st = some out) : sg Tryz.prog O55 K55 Tryz.f55 k [false, true, false, true] st = some out := by
  unfold C55_0 at h; split at h
  · rename_i x1 x5 l0
    exact Lo.of (b := (if x5 < (l0.length : Int) then (if 0 ≤ x5 then (if x5 < (l0.length : Int) then (if (rd_T60 l0 x5).f0 = x1 then (if 0 ≤ x5 then (if x5 < (l0.length : Int) then (if (rd_T60 l0 x5).f1 = RowKit.wrap64 (x1 + 1) then (if 0 ≤ x5 then (if x5 < (l0.length : Int) then (if (rd_T60 l0 x5).f2 = RowKit.wrap64 (RowKit.wrap64 (x1 + 1) + 1) then (if 0 ≤ x5 then (if x5 < (l0.length : Int) then (if (rd_T60 l0 x5).f3 = RowKit.wrap64 (RowKit.wrap64 (RowKit.wrap64 (x1 + 1) + 1) + 1) then (if 0 ≤ x5 then (if x5 < (l0.length : Int) then (if (rd_T60 l0 x5).f4 = RowKit.wrap64 (RowKit.wrap64 (RowKit.wrap64 (RowKit.wrap64 (x1 + 1) + 1) + 1) + 1) then (if 0 ≤ x5 then (if x5 < (l0.length : Int) then (if (rd_T60 l0 x5).f5 = RowKit.wrap64 (RowKit.wrap64 (RowKit.wrap64 (RowKit.wrap64 (RowKit.wrap64 (x1 + 1) + 1) + 1) + 1) + 1) then (if 0 ≤ x5 then (if x5 < (l0.length : Int) then (if (rd_T60 l0 x5).f6 = RowKit.wrap64 (RowKit.wrap64 (RowKit.wrap64 (RowKit.wrap64 (RowKit.wrap64 (RowKit.wrap64 (x1 + 1) + 1) + 1) + 1) + 1) + 1) then (if 0 ≤ x5 then (if x5 < (l0.length : Int) then (if (rd_T60 l0 x5).f7 = RowKit.wrap64 (RowKit.wrap64 (RowKit.wrap64 (RowKit.wrap64 (RowKit.wrap64 (RowKit.wrap64 (RowKit.wrap64 (x1 + 1) + 1) + 1) + 1) + 1) + 1) + 1) then ((laws_heldTradeS.l0 k l0 (RowKit.wrap64 (RowKit.wrap64 (RowKit.wrap64 (RowKit.wrap64 (RowKit.wrap64 (RowKit.wrap64 (RowKit.wrap64 (RowKit.wrap64 (x1 + 1) + 1) + 1) + 1) + 1) + 1) + 1) + 1)) (RowKit.wrap64 (x5 + 1))).bind fun r => some (o55 l0 r)) else (some (o55 l0 (-1)))) else none) else none) else (some (o55 l0 (-1)))) else none) else none) else (some (o55 l0 (-1)))) else none) else none) else (some (o55 l0 (-1)))) else none) else none) else (some (o55 l0 (-1)))) else none) else none) else (some (o55 l0 (-1)))) else none) else none) else (some (o55 l0 (-1)))) else none) else none) else (some (o55 l0 (-1)))) else none) else none) else (some (o55 l0 x1)))) (by kernel_rfl) (by rw [laws_heldTradeS.l0]; exact lo_) _ h
  · cases h
theorem d55 : Sound Tryz.prog q55 := fn_d (O := O55) (cs := K55) nil_ mixed Tryz.func55 (cons_ (fun st => by show C55_0 0 st = none; unfold C55_0; split <;> rfl) nil_) (cons_ h55_0 nil_) fun k a h Z K z e => by
  unfold Q55 at e; split at e
  · rename_i a1 l0
    exact ent e (Lo.of (b := ((laws_heldTradeS.l0 k l0 a1 0).bind fun r => some (o55 l0 r))) (by kernel_rfl) (by unfold laws_heldTradeS.f; exact lo_))
  · cases e
noncomputable def o14 (l0_0 : List S80) (l0_1 : List S84) (l0_2 : List S106) (l0_3 : List S110) (l0_4 : List S60) (r : Int) : Out Rw := ⟨[.c (.sc (.i .i64 r))], [.rows 0 (.e80 l0_0), .rows 0 (.e84 l0_1), .rows 0 (.e106 l0_2), .rows 0 (.e110 l0_3), .rows 0 (.e60 l0_4)]⟩
noncomputable def Q14 : Mean Rw := fun k a h Z K => match a, h with
  | [.w (.ag [.rw 0, .rw 1, .rw 2, .rw 3, .rw 4, .sc (.i .i64 a0_5)]), .w (.c (.sc (.i .i64 a1)))], [.rows 0 (.e80 l0_0), .rows 0 (.e84 l0_1), .rows 0 (.e106 l0_2), .rows 0 (.e110 l0_3), .rows 0 (.e60 l0_4)] => (laws_heldBooks.f k l0_0 l0_1 l0_2 l0_3 l0_4 a0_5 a1).bind fun r => K (o14 l0_0 l0_1 l0_2 l0_3 l0_4 r)
  | _, _ => none
noncomputable def q14 : Cal Rw := ⟨14, false, Q14⟩
noncomputable def O14 : List (Cal Rw) := [q51, q52, q53, q54, q55]
noncomputable def K14 : List (Cut Rw) := []
theorem d14 : Sound Tryz.prog q14 := fn_d (O := O14) (cs := K14) (cons_ d51 (cons_ d52 (cons_ d53 (cons_ d54 (cons_ d55 nil_))))) mixed Tryz.func14 nil_ nil_ fun k a h Z K z e => by
  unfold Q14 at e; split at e
  · rename_i a0_5 a1 l0_0 l0_1 l0_2 l0_3 l0_4
    exact ent e (Lo.of (b := ((laws_heldAccountS.f k l0_0 a1).bind fun r8 => (if r8 < 0 then (some (o14 l0_0 l0_1 l0_2 l0_3 l0_4 (-1))) else ((laws_heldInstrS.f k l0_1 r8).bind fun r9 => (if r9 < 0 then (some (o14 l0_0 l0_1 l0_2 l0_3 l0_4 (-1))) else ((laws_heldBalS.f k l0_2 r9).bind fun r10 => (if r10 < 0 then (some (o14 l0_0 l0_1 l0_2 l0_3 l0_4 (-1))) else ((laws_heldLotS.f k l0_3 r10).bind fun r11 => (if r11 < 0 then (some (o14 l0_0 l0_1 l0_2 l0_3 l0_4 (-1))) else ((laws_heldTradeS.f k l0_4 r11).bind fun r12 => (if r12 < 0 then (some (o14 l0_0 l0_1 l0_2 l0_3 l0_4 (-1))) else (some (o14 l0_0 l0_1 l0_2 l0_3 l0_4 r12))))))))))))) (by kernel_rfl) (by unfold laws_heldBooks.f; exact lo_))
  · cases e
end Go.Proofs.YtmfgajbkcnlkcaaGreat.AI
namespace Go.Proofs.YtmfgajbkcnlkcaaGreat.AI
open Go Go.RowKit Go.Proofs.YtmfgajbkcnlkcaaGreatW.PrintWords Go.Proofs.YtmfgajbkcnlkcaaGreat.P
set_option linter.unusedVariables false
set_option linter.all false
set_option maxRecDepth 100000
set_option maxHeartbeats 4000000
noncomputable def o3 (l0_0 : List S103) (l0_1 : List S105) (l0_2 : List S108) (l0_3 : List S112) (l0_4 : List S114) (r : Bool) : Out Rw := ⟨[.c (.sc (.b r))], [.rows 0 (.e103 l0_0), .rows 0 (.e105 l0_1), .rows 0 (.e108 l0_2), .rows 0 (.e112 l0_3), .rows 0 (.e114 l0_4)]⟩
noncomputable def Q3 : Mean Rw := fun k a h Z K => match a, h with
  | [.w (.ag [.rw 0, .rw 1, .rw 2, .rw 3, .rw 4, .sc (.i .i64 a0_5)]), .w (.c (.sc (.i .i64 a1)))], [.rows 0 (.e103 l0_0), .rows 0 (.e105 l0_1), .rows 0 (.e108 l0_2), .rows 0 (.e112 l0_3), .rows 0 (.e114 l0_4)] => (laws_FnExactBookCancel.f k l0_0 l0_1 l0_2 l0_3 l0_4 a0_5 a1).bind fun r => K (o3 l0_0 l0_1 l0_2 l0_3 l0_4 r)
  | _, _ => none
noncomputable def q3 : Cal Rw := ⟨3, false, Q3⟩
noncomputable def O3 : List (Cal Rw) := [q8, q10, q9, q11, q12, q13, q14]
noncomputable def C3_0 : Nat → St Rw → Option (Out Rw) := fun k st => match st with
  | ⟨101, 5, 24, [(1, .w (.c (.sc (.i .i64 x1)))), (2, .pt 5 0), (6, .pt 6 0), (7, .w (.c (.sc (.i .i64 x7)))), (8, .pt 7 0), (9, .pt 8 0), (10, .w (.c (.sc (.i .i64 x10)))), (44, .w (.c (.sc (.b x44))))], [(0, .rows 0 (.e103 l0_0)), (1, .rows 0 (.e105 l0_1)), (2, .rows 0 (.e108 l0_2)), (3, .rows 0 (.e112 l0_3)), (4, .rows 0 (.e114 l0_4)), (5, .box 28 [.rw 0, .rw 1, .rw 2, .rw 3, .rw 4, .sc (.i .i64 b5_5)]), (6, .box 36 [.rw 9, .rw 10, .rw 11, .rw 12, .rw 13, .sc (.i .i64 b6_5)]), (7, .box 36 [.rw 14, .rw 15, .rw 16, .rw 17, .rw 18, .sc (.i .i64 b7_5)]), (8, .box 36 [.rw 19, .rw 20, .rw 21, .rw 22, .rw 23, .sc (.i .i64 b8_5)]), (9, .rows 2 (.e80 y9)), (10, .rows 2 (.e84 y10)), (11, .rows 2 (.e106 y11)), (12, .rows 2 (.e110 y12)), (13, .rows 2 (.e60 y13)), (14, .rows 2 (.e80 y14)), (15, .rows 2 (.e84 y15)), (16, .rows 2 (.e106 y16)), (17, .rows 2 (.e110 y17)), (18, .rows 2 (.e60 y18)), (19, .rows 2 (.e80 y19)), (20, .rows 2 (.e84 y20)), (21, .rows 2 (.e106 y21)), (22, .rows 2 (.e110 y22)), (23, .rows 2 (.e60 y23))]⟩ => (laws_FnExactBookCancel.j0 k x1 x7 x10 x44 l0_0 l0_1 l0_2 l0_3 l0_4 b5_5 y9 y10 y11 y12 y13 b6_5 y14 y15 y16 y17 y18 b7_5 y19 y20 y21 y22 y23 b8_5).bind fun r => some (o3 l0_0 l0_1 l0_2 l0_3 l0_4 r)
  | _ => none
noncomputable def C3_1 : Nat → St Rw → Option (Out Rw) := fun k st => match st with
  | ⟨101, 5, 18, [(1, .w (.c (.sc (.i .i64 x1)))), (2, .pt 5 0), (6, .pt 6 0), (7, .w (.c (.sc (.i .i64 x7)))), (9, .pt 7 0), (65, .w (.c (.sc (.b x65))))], [(0, .rows 0 (.e103 l0_0)), (1, .rows 0 (.e105 l0_1)), (2, .rows 0 (.e108 l0_2)), (3, .rows 0 (.e112 l0_3)), (4, .rows 0 (.e114 l0_4)), (5, .box 28 [.rw 0, .rw 1, .rw 2, .rw 3, .rw 4, .sc (.i .i64 b5_5)]), (6, .box 36 [.rw 8, .rw 9, .rw 10, .rw 11, .rw 12, .sc (.i .i64 b6_5)]), (7, .box 36 [.rw 13, .rw 14, .rw 15, .rw 16, .rw 17, .sc (.i .i64 b7_5)]), (8, .rows 2 (.e80 y8)), (9, .rows 2 (.e84 y9)), (10, .rows 2 (.e106 y10)), (11, .rows 2 (.e110 y11)), (12, .rows 2 (.e60 y12)), (13, .rows 2 (.e80 y13)), (14, .rows 2 (.e84 y14)), (15, .rows 2 (.e106 y15)), (16, .rows 2 (.e110 y16)), (17, .rows 2 (.e60 y17))]⟩ => (laws_FnExactBookCancel.j1 k x1 x7 x65 l0_0 l0_1 l0_2 l0_3 l0_4 b5_5 y8 y9 y10 y11 y12 b6_5 y13 y14 y15 y16 y17 b7_5).bind fun r => some (o3 l0_0 l0_1 l0_2 l0_3 l0_4 r)
  | _ => none
noncomputable def C3_2 : Nat → St Rw → Option (Out Rw) := fun k st => match st with
  | ⟨101, 5, 11, [(9, .pt 5 0), (12, .w (.c (.sc (.i .i64 x12)))), (92, .w (.c (.sc (.b x92))))], [(0, .rows 0 (.e103 l0_0)), (1, .rows 0 (.e105 l0_1)), (2, .rows 0 (.e108 l0_2)), (3, .rows 0 (.e112 l0_3)), (4, .rows 0 (.e114 l0_4)), (5, .box 36 [.rw 6, .rw 7, .rw 8, .rw 9, .rw 10, .sc (.i .i64 b5_5)]), (6, .rows 2 (.e80 y6)), (7, .rows 2 (.e84 y7)), (8, .rows 2 (.e106 y8)), (9, .rows 2 (.e110 y9)), (10, .rows 2 (.e60 y10))]⟩ => (laws_FnExactBookCancel.j2 k x12 x92 y6 y7 y8 y9 y10 b5_5).bind fun r => some (o3 l0_0 l0_1 l0_2 l0_3 l0_4 r)
  | _ => none
noncomputable def K3 : List (Cut Rw) := [⟨[true, false, true, true, true, true, true, true, true], [1, 2, 6, 7, 8, 9, 10, 44], C3_0⟩, ⟨[true, false, true, true, true, true, true, true, true, true, true, true, true], [1, 2, 6, 7, 9, 65], C3_1⟩, ⟨[true, false, true, true, true, true, true, true, true, true, true, true, true, true, true, true, true, true, true, true, true], [9, 12, 92], C3_2⟩]
theorem h3_0 (k : Nat) (st : St Rw) (out : Out Rw) (h : C3_0 (k + 1) st = some out) : sg Tryz.prog O3 K3 Tryz.f3 k [true, false, true, true, true, true, true, true, true] st = some out := by
  unfold C3_0 at h; split at h
  · rename_i x1 x7 x10 x44 l0_0 l0_1 l0_2 l0_3 l0_4 b5_5 b6_5 b7_5 b8_5 y9 y10 y11 y12 y13 y14 y15 y16 y17 y18 y19 y20 y21 y22 y23
    exact Lo.of (b := (if x44 = true then (some (o3 l0_0 l0_1 l0_2 l0_3 l0_4 false)) else ((laws_toBooks.f k l0_0 l0_1 l0_2 l0_3 l0_4 b5_5).bind fun r29 => ((laws_eqBooks.f k y14 y15 y16 y17 y18 b7_5 r29.1 r29.2.1 r29.2.2.1 r29.2.2.2.1 r29.2.2.2.2.1 r29.2.2.2.2.2).bind fun r30 => (if r30 = true then ((laws_markBooks.f k y14 y15 y16 y17 y18 b7_5 1).bind fun r31 => (if r31.1 < 0 then ((laws_FnExactBookCancel.j1 k x1 x7 true l0_0 l0_1 l0_2 l0_3 l0_4 b5_5 y9 y10 y11 y12 y13 b6_5 y19 y20 y21 y22 y23 b8_5).bind fun r => some (o3 l0_0 l0_1 l0_2 l0_3 l0_4 r)) else ((laws_eqBooks.f k y19 y20 y21 y22 y23 b8_5 y9 y10 y11 y12 y13 b6_5).bind fun r32 => (if r32 = true then ((laws_FnExactBookCancel.j1 k x1 x7 (!decide (x10 = x7)) l0_0 l0_1 l0_2 l0_3 l0_4 b5_5 y9 y10 y11 y12 y13 b6_5 y19 y20 y21 y22 y23 b8_5).bind fun r => some (o3 l0_0 l0_1 l0_2 l0_3 l0_4 r)) else ((laws_FnExactBookCancel.j1 k x1 x7 true l0_0 l0_1 l0_2 l0_3 l0_4 b5_5 y9 y10 y11 y12 y13 b6_5 y19 y20 y21 y22 y23 b8_5).bind fun r => some (o3 l0_0 l0_1 l0_2 l0_3 l0_4 r)))))) else (some (o3 l0_0 l0_1 l0_2 l0_3 l0_4 false))))))) (by kernel_rfl) (by rw [laws_FnExactBookCancel.j0]; exact lo_) _ h
  · cases h
theorem h3_1 (k : Nat) (st : St Rw) (out : Out Rw) (h : C3_1 (k + 1) st = some out) : sg Tryz.prog O3 K3 Tryz.f3 k [true, false, true, true, true, true, true, true, true, true, true, true, true] st = some out := by
  unfold C3_1 at h; split at h
  · rename_i x1 x7 x65 l0_0 l0_1 l0_2 l0_3 l0_4 b5_5 b6_5 b7_5 y8 y9 y10 y11 y12 y13 y14 y15 y16 y17
    exact Lo.of (b := (if x65 = true then (some (o3 l0_0 l0_1 l0_2 l0_3 l0_4 false)) else ((laws_markBooks.f k y13 y14 y15 y16 y17 b7_5 1).bind fun r22 => ((laws_heldBooks.f k r22.2.1 r22.2.2.1 r22.2.2.2.1 r22.2.2.2.2.1 r22.2.2.2.2.2 b7_5 1).bind fun r23 => (if r23 < 0 then (some (o3 l0_0 l0_1 l0_2 l0_3 l0_4 false)) else (if r23 = r22.1 then ((laws_toBooks.f k l0_0 l0_1 l0_2 l0_3 l0_4 b5_5).bind fun r24 => ((impl_BookCancel.f k r24.1 r24.2.1 r24.2.2.1 r24.2.2.2.1 r24.2.2.2.2.1 r24.2.2.2.2.2 x1).bind fun r25 => ((laws_eqBooks.f k r25.1 r25.2.1 r25.2.2.1 r25.2.2.2.1 r25.2.2.2.2.1 r25.2.2.2.2.2.1 y8 y9 y10 y11 y12 b6_5).bind fun r26 => (if r26 = true then ((laws_FnExactBookCancel.j2 k r22.1 (!decide (r25.2.2.2.2.2.2 = x7)) r22.2.1 r22.2.2.1 r22.2.2.2.1 r22.2.2.2.2.1 r22.2.2.2.2.2 b7_5).bind fun r => some (o3 l0_0 l0_1 l0_2 l0_3 l0_4 r)) else ((laws_FnExactBookCancel.j2 k r22.1 true r22.2.1 r22.2.2.1 r22.2.2.2.1 r22.2.2.2.2.1 r22.2.2.2.2.2 b7_5).bind fun r => some (o3 l0_0 l0_1 l0_2 l0_3 l0_4 r)))))) else (some (o3 l0_0 l0_1 l0_2 l0_3 l0_4 false)))))))) (by kernel_rfl) (by rw [laws_FnExactBookCancel.j1]; exact lo_) _ h
  · cases h
theorem h3_2 (k : Nat) (st : St Rw) (out : Out Rw) (h : C3_2 (k + 1) st = some out) : sg Tryz.prog O3 K3 Tryz.f3 k [true, false, true, true, true, true, true, true, true, true, true, true, true, true, true, true, true, true, true, true, true] st = some out := by
  unfold C3_2 at h; split at h
  · rename_i x12 x92 l0_0 l0_1 l0_2 l0_3 l0_4 b5_5 y6 y7 y8 y9 y10
    exact Lo.of (b := (if x92 = true then (some (o3 l0_0 l0_1 l0_2 l0_3 l0_4 false)) else ((laws_heldBooks.f k y6 y7 y8 y9 y10 b5_5 1).bind fun r14 => (if r14 < 0 then (some (o3 l0_0 l0_1 l0_2 l0_3 l0_4 false)) else (if r14 = x12 then (some (o3 l0_0 l0_1 l0_2 l0_3 l0_4 true)) else (some (o3 l0_0 l0_1 l0_2 l0_3 l0_4 false))))))) (by kernel_rfl) (by rw [laws_FnExactBookCancel.j2]; exact lo_) _ h
  · cases h
theorem d3 : Sound Tryz.prog q3 := fn_d (O := O3) (cs := K3) (cons_ d8 (cons_ d10 (cons_ d9 (cons_ d11 (cons_ d12 (cons_ d13 (cons_ d14 nil_))))))) mixed Tryz.func3 (cons_ (fun st => by show C3_0 0 st = none; unfold C3_0; split <;> rfl) (cons_ (fun st => by show C3_1 0 st = none; unfold C3_1; split <;> rfl) (cons_ (fun st => by show C3_2 0 st = none; unfold C3_2; split <;> rfl) nil_))) (cons_ h3_0 (cons_ h3_1 (cons_ h3_2 nil_))) fun k a h Z K z e => by
  unfold Q3 at e; split at e
  · rename_i a0_5 a1 l0_0 l0_1 l0_2 l0_3 l0_4
    exact ent e (Lo.of (b := ((laws_szBooks.f l0_0 l0_1 l0_2 l0_3 l0_4 a0_5 1048576).bind fun r8 => (if r8 < 0 then (some (o3 l0_0 l0_1 l0_2 l0_3 l0_4 true)) else ((laws_toBooks.f k l0_0 l0_1 l0_2 l0_3 l0_4 a0_5).bind fun r9 => ((spec_BookCancel.f k r9.1 r9.2.1 r9.2.2.1 r9.2.2.2.1 r9.2.2.2.2.1 r9.2.2.2.2.2 a1).bind fun r10 => ((laws_toBooks.f k l0_0 l0_1 l0_2 l0_3 l0_4 a0_5).bind fun r11 => ((impl_BookCancel.f k r11.1 r11.2.1 r11.2.2.1 r11.2.2.2.1 r11.2.2.2.2.1 r11.2.2.2.2.2 a1).bind fun r12 => ((laws_eqBooks.f k r12.1 r12.2.1 r12.2.2.1 r12.2.2.2.1 r12.2.2.2.2.1 r12.2.2.2.2.2.1 r10.1 r10.2.1 r10.2.2.1 r10.2.2.2.1 r10.2.2.2.2.1 r10.2.2.2.2.2.1).bind fun r13 => (if r13 = true then ((laws_FnExactBookCancel.j0 k a1 r10.2.2.2.2.2.2 r12.2.2.2.2.2.2 (!decide (r12.2.2.2.2.2.2 = r10.2.2.2.2.2.2)) l0_0 l0_1 l0_2 l0_3 l0_4 a0_5 r10.1 r10.2.1 r10.2.2.1 r10.2.2.2.1 r10.2.2.2.2.1 r10.2.2.2.2.2.1 r11.1 r11.2.1 r11.2.2.1 r11.2.2.2.1 r11.2.2.2.2.1 r11.2.2.2.2.2 r12.1 r12.2.1 r12.2.2.1 r12.2.2.2.1 r12.2.2.2.2.1 r12.2.2.2.2.2.1).bind fun r => some (o3 l0_0 l0_1 l0_2 l0_3 l0_4 r)) else ((laws_FnExactBookCancel.j0 k a1 r10.2.2.2.2.2.2 r12.2.2.2.2.2.2 true l0_0 l0_1 l0_2 l0_3 l0_4 a0_5 r10.1 r10.2.1 r10.2.2.1 r10.2.2.2.1 r10.2.2.2.2.1 r10.2.2.2.2.2.1 r11.1 r11.2.1 r11.2.2.1 r11.2.2.2.1 r11.2.2.2.2.1 r11.2.2.2.2.2 r12.1 r12.2.1 r12.2.2.1 r12.2.2.2.1 r12.2.2.2.2.1 r12.2.2.2.2.2.1).bind fun r => some (o3 l0_0 l0_1 l0_2 l0_3 l0_4 r))))))))))) (by kernel_rfl) (by unfold laws_FnExactBookCancel.f; exact lo_))
  · cases e
end Go.Proofs.YtmfgajbkcnlkcaaGreat.AI
namespace Go.Proofs.YtmfgajbkcnlkcaaGreat.AI
open Go Go.RowKit Go.Proofs.YtmfgajbkcnlkcaaGreatW.PrintWords Go.Proofs.YtmfgajbkcnlkcaaGreat.P
set_option linter.unusedVariables false
set_option linter.all false
set_option maxRecDepth 100000
set_option maxHeartbeats 4000000
theorem root3_ok (k : Nat) (A0_0 : Option Addr) (c0_0 : Nat) (l0_0 : List (S103)) (A0_1 : Option Addr) (c0_1 : Nat) (l0_1 : List (S105)) (A0_2 : Option Addr) (c0_2 : Nat) (l0_2 : List (S108)) (A0_3 : Option Addr) (c0_3 : Nat) (l0_3 : List (S112)) (A0_4 : Option Addr) (c0_4 : Nat) (l0_4 : List (S114)) (a0_5 : Int) (a1 : Int) (r : Bool) (w : World) (hr0_0 : Kd.C k103 w A0_0 l0_0.length l0_0) (hc0_0 : l0_0.length ≤ c0_0) (hr0_1 : Kd.C k105 w A0_1 l0_1.length l0_1) (hc0_1 : l0_1.length ≤ c0_1) (hr0_2 : Kd.C k108 w A0_2 l0_2.length l0_2) (hc0_2 : l0_2.length ≤ c0_2) (hr0_3 : Kd.C k112 w A0_3 l0_3.length l0_3) (hc0_3 : l0_3.length ≤ c0_3) (hr0_4 : Kd.C k114 w A0_4 l0_4.length l0_4) (hc0_4 : l0_4.length ≤ c0_4) (h : laws_FnExactBookCancel.f k l0_0 l0_1 l0_2 l0_3 l0_4 a0_5 a1 = some r) :
    Calls Tryz.prog 3 #[.agg #[.slice A0_0 l0_0.length c0_0, .slice A0_1 l0_1.length c0_1, .slice A0_2 l0_2.length c0_2, .slice A0_3 l0_3.length c0_3, .slice A0_4 l0_4.length c0_4, .int .i64 a0_5], .int .i64 a1] w fun e w' => e = .returned (.bool r) ∧ Below w.heap.size w w' := by
  let G : Nat → Value := fun i => match i with
    | 0 => .slice A0_0 l0_0.length c0_0
    | 1 => .slice A0_1 l0_1.length c0_1
    | 2 => .slice A0_2 l0_2.length c0_2
    | 3 => .slice A0_3 l0_3.length c0_3
    | 4 => .slice A0_4 l0_4.length c0_4
    | _ => undef
  have hA : ArgsOK (R := Rw) Tryz.prog w G [.w (.ag [.rw 0, .rw 1, .rw 2, .rw 3, .rw 4, .sc (.i .i64 a0_5)]), .w (.c (.sc (.i .i64 a1)))] [.rows 0 (.e103 l0_0), .rows 0 (.e105 l0_1), .rows 0 (.e108 l0_2), .rows 0 (.e112 l0_3), .rows 0 (.e114 l0_4)] := args_ro (by simp [isRo]) (by simp [idsV, idsW, idsC, EpOK]) fun i b hb => by
    match i, hb with
    | 0, hb => obtain rfl := Option.some.inj hb; exact ro103.2 ⟨_, _, rfl, hc0_0, hr0_0⟩
    | 1, hb => obtain rfl := Option.some.inj hb; exact ro105.2 ⟨_, _, rfl, hc0_1, hr0_1⟩
    | 2, hb => obtain rfl := Option.some.inj hb; exact ro108.2 ⟨_, _, rfl, hc0_2, hr0_2⟩
    | 3, hb => obtain rfl := Option.some.inj hb; exact ro112.2 ⟨_, _, rfl, hc0_3, hr0_3⟩
    | 4, hb => obtain rfl := Option.some.inj hb; exact ro114.2 ⟨_, _, rfl, hc0_4, hr0_4⟩
    | _ + 5, hb => simp at hb
  have hq := calls_ro (out := o3 l0_0 l0_1 l0_2 l0_3 l0_4 r) (by simp [isRo]) (by simp [o3, idsW, idsC]) (good_of d3 (k := k) (by show (laws_FnExactBookCancel.f k l0_0 l0_1 l0_2 l0_3 l0_4 a0_5 a1).bind _ = _; rw [h]; rfl)) hA
  have hv : (List.map (concV G) [.w (.ag [.rw 0, .rw 1, .rw 2, .rw 3, .rw 4, .sc (.i .i64 a0_5)]), .w (.c (.sc (.i .i64 a1)))]).toArray = #[.agg #[.slice A0_0 l0_0.length c0_0, .slice A0_1 l0_1.length c0_1, .slice A0_2 l0_2.length c0_2, .slice A0_3 l0_3.length c0_3, .slice A0_4 l0_4.length c0_4, .int .i64 a0_5], .int .i64 a1] := by simp [concV, concW, conc, Sc.v, G]
  rw [hv] at hq
  exact hq
end Go.Proofs.YtmfgajbkcnlkcaaGreat.AI
namespace Go.Proofs.YtmfgajbkcnlkcaaGreat.EV
open Go Go.RowKit Go.Proofs.YtmfgajbkcnlkcaaGreatW.PrintWords
theorem w64_in (n : Int) (h0 : -9223372036854775808 ≤ n) (h1 : n ≤ 9223372036854775807) : wrap64 n = n := by unfold wrap64; omega
theorem w_succ {i n : Nat} (h : i < n) (hn : n ≤ 9223372036854775807) : wrap64 ((i : Int) + 1) = ((i + 1 : Nat) : Int) := by unfold wrap64; omega
theorem w_pred {i n : Nat} (h : i < n) (hp : 0 < i) (hn : n ≤ 9223372036854775807) : wrap64 ((i : Int) - 1) = ((i - 1 : Nat) : Int) := by unfold wrap64; omega
theorem Ev_one {α : Type} {g : Nat → Option α} {r : α} (h : ∀ k, g (k + 1) = some r) : Ev g r := ⟨1, fun k hk => by
  obtain ⟨k, rfl⟩ : ∃ m, k = m + 1 := ⟨k - 1, by omega⟩
  exact h k⟩
theorem Ev_all_k {α : Type} {g : Nat → Option α} {r : α} (h : ∀ k, g k = some r) : Ev g r := ⟨0, fun k _ => h k⟩
theorem Ev_bind {α β : Type} {g : Nat → Option α} {f : Nat → α → Option β} {a : α} {r : β} (h : Ev g a) (k : Ev (fun n => f n a) r) : Ev (fun n => (g n).bind (f n)) r := Ev.bind h k
theorem Ev_asks (l : Nat → Int → Option Bool) (n : Nat) (G : Nat → Prop) (fin : Bool) (h0 : Ev (fun k => l k (n : Int)) fin)
    (hs : ∀ i : Nat, i < n → (G i ∧ ∀ k, l (k + 1) (i : Int) = l k ((i + 1 : Nat) : Int)) ∨ (¬ G i ∧ ∀ k, l (k + 1) (i : Int) = some false)) :
    ∀ (d i : Nat), n - i = d → i ≤ n → ∃ r, Ev (fun k => l k (i : Int)) r ∧ (r = true ↔ (∀ j, i ≤ j → j < n → G j) ∧ fin = true) := by
  intro d
  induction d with
  | zero =>
    intro i hd hi
    obtain rfl : i = n := by omega
    exact ⟨fin, h0, ⟨fun h => ⟨fun j h1 h2 => by omega, h⟩, fun h => h.2⟩⟩
  | succ d ih =>
    intro i hd hi
    rcases hs i (by omega) with ⟨hg, he⟩ | ⟨hg, he⟩
    · obtain ⟨r, hr, hiff⟩ := ih (i + 1) (by omega) (by omega)
      refine ⟨r, Ev.step he hr, ?_⟩
      rw [hiff]
      constructor
      · rintro ⟨h1, h2⟩
        refine ⟨fun j h3 h4 => ?_, h2⟩
        rcases Nat.eq_or_lt_of_le h3 with h5 | h5
        · exact h5 ▸ hg
        · exact h1 j h5 h4
      · rintro ⟨h1, h2⟩
        exact ⟨fun j h3 h4 => h1 j (by omega) h4, h2⟩
    · refine ⟨false, Ev_one he, ⟨fun h => Bool.noConfusion h, fun h => absurd (h.1 i (Nat.le_refl _) (by omega)) hg⟩⟩
theorem Ev_goes {σ ρ : Type} (l : Nat → σ → Int → Option ρ) (n : Nat) (F : Nat → σ → ρ) (Inv : Nat → σ → Prop)
    (h0 : ∀ s, Inv n s → Ev (fun k => l k s (n : Int)) (F n s))
    (hs : ∀ (i : Nat) s, i < n → Inv i s → (Ev (fun k => l k s (i : Int)) (F i s)) ∨ ∃ s', Inv (i + 1) s' ∧ F (i + 1) s' = F i s ∧ ∀ k, l (k + 1) s (i : Int) = l k s' ((i + 1 : Nat) : Int)) :
    ∀ (d i : Nat) s, n - i = d → i ≤ n → Inv i s → Ev (fun k => l k s (i : Int)) (F i s) := by
  intro d
  induction d with
  | zero =>
    intro i s hd hi hinv
    obtain rfl : i = n := by omega
    exact h0 s hinv
  | succ d ih =>
    intro i s hd hi hinv
    rcases hs i s (by omega) hinv with h | ⟨s', h1, h2, h3⟩
    · exact h
    · exact h2 ▸ Ev.step h3 (ih (i + 1) s' (by omega) (by omega) h1)
theorem Ev_goes' {σ ρ : Type} (l : Nat → σ → Int → Option ρ) (n : Nat) (F : Nat → σ → ρ) (Inv : Nat → σ → Prop)
    (h0 : ∀ s, Inv n s → Ev (fun k => l k s (n : Int)) (F n s))
    (hs : ∀ (i : Nat) s, i < n → Inv i s → (Ev (fun k => l k s (i : Int)) (F i s)) ∨ ∃ s', Inv (i + 1) s' ∧ F (i + 1) s' = F i s ∧ ∀ r, Ev (fun k => l k s' ((i + 1 : Nat) : Int)) r → Ev (fun k => l k s (i : Int)) r) :
    ∀ (d i : Nat) s, n - i = d → i ≤ n → Inv i s → Ev (fun k => l k s (i : Int)) (F i s) := by
  intro d
  induction d with
  | zero =>
    intro i s hd hi hinv
    obtain rfl : i = n := by omega
    exact h0 s hinv
  | succ d ih =>
    intro i s hd hi hinv
    rcases hs i s (by omega) hinv with h | ⟨s', h1, h2, h3⟩
    · exact h
    · exact h2 ▸ h3 _ (ih (i + 1) s' (by omega) (by omega) h1)
theorem Ev_asks' (l : Nat → Int → Option Bool) (n : Nat) (G : Nat → Prop) (fin : Bool) (h0 : Ev (fun k => l k (n : Int)) fin)
    (hs : ∀ i : Nat, i < n → (G i ∧ ∀ r, Ev (fun k => l k ((i + 1 : Nat) : Int)) r → Ev (fun k => l k (i : Int)) r) ∨ (¬ G i ∧ Ev (fun k => l k (i : Int)) false)) :
    ∀ (d i : Nat), n - i = d → i ≤ n → ∃ r, Ev (fun k => l k (i : Int)) r ∧ (r = true ↔ (∀ j, i ≤ j → j < n → G j) ∧ fin = true) := by
  intro d
  induction d with
  | zero =>
    intro i hd hi
    obtain rfl : i = n := by omega
    exact ⟨fin, h0, ⟨fun h => ⟨fun j h1 h2 => by omega, h⟩, fun h => h.2⟩⟩
  | succ d ih =>
    intro i hd hi
    rcases hs i (by omega) with ⟨hg, he⟩ | ⟨hg, he⟩
    · obtain ⟨r, hr, hiff⟩ := ih (i + 1) (by omega) (by omega)
      refine ⟨r, he r hr, ?_⟩
      rw [hiff]
      constructor
      · rintro ⟨h1, h2⟩
        refine ⟨fun j h3 h4 => ?_, h2⟩
        rcases Nat.eq_or_lt_of_le h3 with h5 | h5
        · exact h5 ▸ hg
        · exact h1 j h5 h4
      · rintro ⟨h1, h2⟩
        exact ⟨fun j h3 h4 => h1 j (by omega) h4, h2⟩
    · exact ⟨false, he, ⟨fun h => Bool.noConfusion h, fun h => absurd (h.1 i (Nat.le_refl _) (by omega)) hg⟩⟩
theorem drop_getD {α : Type} (z : α) (l : List α) (i : Nat) (h : i < l.length) : l.drop i = l.getD i z :: l.drop (i + 1) := by
  rw [List.drop_eq_getElem_cons h, List.getD_eq_getElem?_getD, List.getElem?_eq_getElem h]
  rfl
theorem getD_set {α : Type} (l : List α) (i j : Nat) (x z : α) : (l.set i x).getD j z = if i = j ∧ j < l.length then x else l.getD j z := by
  rw [List.getD_eq_getElem?_getD, List.getElem?_set, List.getD_eq_getElem?_getD]
  by_cases h : i = j
  · subst h
    by_cases h2 : i < l.length
    · simp [h2]
    · simp [h2]
  · simp [h]
theorem ext_getD {α : Type} (z : α) {a b : List α} (hl : a.length = b.length) (h : ∀ i, i < a.length → a.getD i z = b.getD i z) : a = b := by
  apply List.ext_getElem hl
  intro i h1 h2
  have := h i h1
  rw [List.getD_eq_getElem?_getD, List.getD_eq_getElem?_getD, List.getElem?_eq_getElem h1, List.getElem?_eq_getElem h2] at this
  simpa using this
end Go.Proofs.YtmfgajbkcnlkcaaGreat.EV
namespace Go.Proofs.YtmfgajbkcnlkcaaGreat.I1
open Go Go.RowKit Go.Proofs.YtmfgajbkcnlkcaaGreat.P Go.Proofs.YtmfgajbkcnlkcaaGreatW.PrintWords Go.Proofs.YtmfgajbkcnlkcaaGreatW.PrintLast
theorem in_i (a lo hi : Int) : impl_in.f a lo hi = some (decide (lo ≤ a ∧ a ≤ hi)) := by
  unfold impl_in.f
  by_cases h : a ≥ lo
  · rw [if_pos h]
    congr 1
    rw [Bool.eq_iff_iff, decide_eq_true_iff, decide_eq_true_iff]
    omega
  · rw [if_neg h]
    congr 1
    symm
    rw [decide_eq_false_iff_not]
    omega
theorem in_s (a lo hi : Int) : spec_l1In.f a lo hi = some (decide (lo ≤ a ∧ a ≤ hi)) := by
  unfold spec_l1In.f
  by_cases h : a ≥ lo
  · rw [if_pos h]
    congr 1
    rw [Bool.eq_iff_iff, decide_eq_true_iff, decide_eq_true_iff]
    omega
  · rw [if_neg h]
    congr 1
    symm
    rw [decide_eq_false_iff_not]
    omega
end Go.Proofs.YtmfgajbkcnlkcaaGreat.I1
