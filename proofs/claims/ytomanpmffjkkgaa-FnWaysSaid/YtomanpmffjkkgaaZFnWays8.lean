/- First and last take whole lots of drawn ones from either end, and what is left stands between; no condition. -/
import Derived.Test.YtomanpmffjkkgaaZFnWays7
import Derived.SizedLaws
import Derived.ChangeSlices
import Derived.Test.YtomanpmffjkkgaaRows
import Derived.WalkKit
import Derived.ProofKit
import Derived.OpenShut
import Derived.ShutString
import Derived.ChangeOld
import Derived.Below
namespace Go.Proofs.Ytomanpmffjkkgaa.P
end Go.Proofs.Ytomanpmffjkkgaa.P
namespace Go.Proofs.Ytomanpmffjkkgaa.EV
end Go.Proofs.Ytomanpmffjkkgaa.EV
namespace Go.Proofs.Ytomanpmffjkkgaa.D1
end Go.Proofs.Ytomanpmffjkkgaa.D1
namespace Go.Proofs.Ytomanpmffjkkgaa.I1
end Go.Proofs.Ytomanpmffjkkgaa.I1
namespace Go.Proofs.Ytomanpmffjkkgaa.N1
end Go.Proofs.Ytomanpmffjkkgaa.N1
namespace Go.Proofs.Ytomanpmffjkkgaa.E1
end Go.Proofs.Ytomanpmffjkkgaa.E1
namespace Go.Proofs.Ytomanpmffjkkgaa.E2
end Go.Proofs.Ytomanpmffjkkgaa.E2
namespace Go.Proofs.Ytomanpmffjkkgaa.E4
end Go.Proofs.Ytomanpmffjkkgaa.E4
namespace Go.Proofs.Ytomanpmffjkkgaa.E3
end Go.Proofs.Ytomanpmffjkkgaa.E3
namespace Go.Proofs.Ytomanpmffjkkgaa.E5
end Go.Proofs.Ytomanpmffjkkgaa.E5
namespace Go.Proofs.Ytomanpmffjkkgaa.E6
end Go.Proofs.Ytomanpmffjkkgaa.E6
namespace Go.Proofs.Ytomanpmffjkkgaa.E7
end Go.Proofs.Ytomanpmffjkkgaa.E7
namespace Go.Proofs.Ytomanpmffjkkgaa.E8
end Go.Proofs.Ytomanpmffjkkgaa.E8
namespace Go.Proofs.Ytomanpmffjkkgaa.D5
end Go.Proofs.Ytomanpmffjkkgaa.D5
namespace Go.Proofs.Ytomanpmffjkkgaa.D5
open Go Go.RowKit Go.Proofs.Ytomanpmffjkkgaa.P Go.Proofs.YtomanpmffjkkgaaW.PrintWords Go.Proofs.YtomanpmffjkkgaaW.PrintLast Go.Proofs.Ytomanpmffjkkgaa.EV Go.Proofs.Ytomanpmffjkkgaa.D1 Go.Proofs.Ytomanpmffjkkgaa.I1 Go.Proofs.Ytomanpmffjkkgaa.N1 Go.Proofs.Ytomanpmffjkkgaa.E1 Go.Proofs.Ytomanpmffjkkgaa.E2 Go.Proofs.Ytomanpmffjkkgaa.E4
theorem below_any (b : List Int) (i h n : Int) (hv : V b i) : ∃ x i' h', spec_l1Below.f b i h n = some (x, i', h') ∧ 0 ≤ x ∧ (0 < n → x < n) ∧ V b i' := by
  unfold spec_l1Below.f
  by_cases h0 : n ≤ 0
  · rw [if_pos h0]
    exact ⟨_, _, _, rfl, by omega, fun h => by omega, hv⟩
  · rw [if_neg h0]
    by_cases h1 : n ≤ 256
    · rw [if_pos h1]
      obtain ⟨x, i1, g1, e1, x0, x1, v1⟩ := byte_ok b i h hv
      rw [e1, Option.bind_some, if_neg (by omega)]
      refine ⟨_, _, _, rfl, ?_, fun _ => ?_, v1⟩
      · show 0 ≤ Int.tmod x n
        rw [Int.tmod_eq_emod_of_nonneg x0]
        exact Int.emod_nonneg _ (by omega)
      · show Int.tmod x n < n
        rw [Int.tmod_eq_emod_of_nonneg x0]
        exact Int.emod_lt_of_pos _ (by omega)
    · rw [if_neg h1]
      obtain ⟨x, i1, g1, e1, x0, x1, v1⟩ := byte_ok b i h hv
      rw [e1, Option.bind_some]
      obtain ⟨y, i2, g2, e2, y0, y1, v2⟩ := byte_ok b i1 g1 v1
      simp only [e2, Option.bind_some]
      obtain ⟨z, i3, g3, e3, z0, z1, v3⟩ := byte_ok b i2 g2 v2
      simp only [e3, Option.bind_some]
      obtain ⟨u, i4, g4, e4, u0, u1, v4⟩ := byte_ok b i3 g3 v3
      simp only [e4, Option.bind_some]
      rw [if_neg (by omega), w64_in (x * 16777216) (by omega) (by omega), w64_in (y * 65536) (by omega) (by omega), w64_in (z * 256) (by omega) (by omega),
        w64_in (x * 16777216 + y * 65536) (by omega) (by omega), w64_in (x * 16777216 + y * 65536 + z * 256) (by omega) (by omega), w64_in (x * 16777216 + y * 65536 + z * 256 + u) (by omega) (by omega)]
      refine ⟨_, _, _, rfl, ?_, fun _ => ?_, v4⟩
      · rw [Int.tmod_eq_emod_of_nonneg (by omega)]
        exact Int.emod_nonneg _ (by omega)
      · rw [Int.tmod_eq_emod_of_nonneg (by omega)]
        exact Int.emod_lt_of_pos _ (by omega)
theorem drawNo_any (b : List Int) (i h : Int) (hv : V b i) : ∃ x i' h', spec_l3DrawNo.f b i h = some (x, i', h') ∧ V b i' := by
  unfold spec_l3DrawNo.f
  obtain ⟨x, i1, g1, e1, v1⟩ := once_ok b i h 15 hv (by decide)
  rw [e1, Option.bind_some]
  cases x with
  | true =>
    obtain ⟨y, i2, g2, e2, _, v2⟩ := pick_ok b i1 g1 [0, (-1), 1000, 1001] v1 (by decide) (by decide)
    refine ⟨y, i2, g2, ?_, v2⟩
    dsimp only
    rw [if_pos rfl, e2]
    rfl
  | false =>
    obtain ⟨y, i2, g2, e2, _, _, _, v2⟩ := below_ok b i1 g1 9 v1 (by decide)
    refine ⟨wrap64 (1 + y), i2, g2, ?_, v2⟩
    dsimp only
    rw [if_neg (by decide), e2]
    rfl
theorem lots_e (b : List Int) (n i : Int) (l : List SL) (c h : Int) (hin : ¬ i < n) (hl : l.length ≤ 1000) (hv : V b c) : ∃ r c' h', (∀ k, spec_l5DrawLots.l0 (k + 1) l n i b c h = some (r, c', h')) ∧ r.length ≤ 1001 ∧ V b c' := by
  obtain ⟨x, i1, g1, e1, _, _, v1⟩ := below_any b c h 25 hv
  by_cases h0 : x = 0
  · by_cases h2 : (l.length : Int) > 0
    · obtain ⟨y, i2, g2, e2, _, v2⟩ := pick_ok b i1 g1 [0, (-1), 1000000000000000, 1000000000000001] v1 (by decide) (by decide)
      refine ⟨l.set (0 : Int).toNat (⟨(rd_T37 l 0).f0, (rd_T37 l 0).f1, (rd_T37 l 0).f2, y, (rd_T37 l 0).f4⟩ : SL), i2, g2, fun k => ?_, by rw [List.length_set]; omega, v2⟩
      simp only [spec_l5DrawLots.l0]
      rw [if_neg hin, e1, Option.bind_some, if_pos h0, if_pos h2, e2, Option.bind_some, if_pos (by omega)]
    · refine ⟨l, i1, g1, fun k => ?_, by omega, v1⟩
      simp only [spec_l5DrawLots.l0]
      rw [if_neg hin, e1, Option.bind_some, if_pos h0, if_neg h2]
  · by_cases h1 : x = 1
    · obtain ⟨y, i2, g2, e2, v2⟩ := drawNo_any b i1 g1 v1
      obtain ⟨z, i3, g3, e3, _, _, v3⟩ := below_any b i2 g2 3 v2
      refine ⟨l ++ [⟨y, 1, z, 1, 0⟩], i3, g3, fun k => ?_, by simp; omega, v3⟩
      simp only [spec_l5DrawLots.l0]
      rw [if_neg hin, e1, Option.bind_some, if_neg h0, if_pos h1]
      simp only [e2, e3, Option.bind_some]
      rw [if_pos (by omega)]
    · refine ⟨l, i1, g1, fun k => ?_, by omega, v1⟩
      simp only [spec_l5DrawLots.l0]
      rw [if_neg hin, e1, Option.bind_some, if_neg h0, if_neg h1]
theorem lots_l (b : List Int) (n : Int) (hn : n ≤ 120) : ∀ (d : Nat) (i : Int) (l : List SL) (c h : Int), (n - i).toNat = d → 0 ≤ i → (l.length : Int) ≤ i → i ≤ n ∨ i = 0 → V b c → ∃ r c' h', Ev (fun k => spec_l5DrawLots.l0 k l n i b c h) (r, c', h') ∧ r.length ≤ 1001 ∧ V b c' := by
  intro d
  induction d with
  | zero =>
    intro i l c h hd hi hl hin hv
    obtain ⟨r, c', h', hr, h2, h3⟩ := lots_e b n i l c h (by omega) (by omega) hv
    exact ⟨r, c', h', Ev_one hr, h2, h3⟩
  | succ d ih =>
    intro i l c h hd hi hl hin hv
    have hw2 : wrap64 (i + 1) = i + 1 := w64_in _ (by omega) (by omega)
    obtain ⟨x, i1, g1, e1, _, _, v1⟩ := below_any b c h 3 hv
    obtain ⟨y, i2, g2, e2, _, _, v2⟩ := below_any b i1 g1 2 v1
    obtain ⟨z, i3, g3, e3, _, _, v3⟩ := below_any b i2 g2 (wrap64 (20 + (wrap64 (2 * n)))) v2
    obtain ⟨u, i4, g4, e4, _, _, v4⟩ := below_any b i3 g3 30 v3
    obtain ⟨v, i5, g5, e5, _, _, v5⟩ := below_any b i4 g4 500 v4
    obtain ⟨o, ho⟩ : ∃ o, o = openL l ⟨wrap64 (1 + x), wrap64 (1 + y), wrap64 (1 + z), wrap64 (1 + u), v⟩ := ⟨_, rfl⟩
    have hp : Ev (fun k => spec_LotOpen.f k l (wrap64 (1 + x)) (wrap64 (1 + y)) (wrap64 (1 + z)) (wrap64 (1 + u)) v) o := by rw [ho]; exact open_s l ⟨wrap64 (1 + x), wrap64 (1 + y), wrap64 (1 + z), wrap64 (1 + u), v⟩ (by omega)
    have hol : o.1.length ≤ l.length + 1 := by rw [ho]; exact open_len _ _
    have e : ∀ k, spec_l5DrawLots.l0 (k + 1) l n i b c h = (spec_LotOpen.f k l (wrap64 (1 + x)) (wrap64 (1 + y)) (wrap64 (1 + z)) (wrap64 (1 + u)) v).bind fun t => if t.2 = 0 then spec_l5DrawLots.l0 k t.1 n (i + 1) b i5 g5 else spec_l5DrawLots.l0 k l n (i + 1) b i5 g5 := by
      intro k
      simp only [spec_l5DrawLots.l0]
      rw [if_pos (by omega), e1, Option.bind_some]
      simp only [e2, e3, e4, e5, Option.bind_some, hw2]
    by_cases ho2 : o.2 = 0
    · obtain ⟨r, c', h', hr, h2, h3⟩ := ih (i + 1) o.1 i5 g5 (by omega) (by omega) (by omega) (by omega) v5
      exact ⟨r, c', h', Ev.step e (Ev_bind hp (Ev.congr (fun k => if_pos ho2) hr)), h2, h3⟩
    · obtain ⟨r, c', h', hr, h2, h3⟩ := ih (i + 1) l i5 g5 (by omega) (by omega) (by omega) (by omega) v5
      exact ⟨r, c', h', Ev.step e (Ev_bind hp (Ev.congr (fun k => if_neg ho2) hr)), h2, h3⟩
theorem lots_ok (b : List Int) (i h : Int) (hv : V b i) : ∃ r i' h', Ev (fun k => spec_l5DrawLots.f k b i h) (r, i', h') ∧ r.length ≤ 1001 ∧ V b i' := by
  unfold spec_l5DrawLots.f
  obtain ⟨x, i1, g1, e1, x0, x1, v1⟩ := below_any b i h 12 hv
  obtain ⟨y, i2, g2, e2, v2⟩ := once_ok b i1 g1 20 v1 (by decide)
  cases y with
  | true =>
    obtain ⟨r, c', h', hr, h2, h3⟩ := lots_l b 120 (by decide) _ 0 [] i2 g2 rfl (by decide) (by decide) (.inr rfl) v2
    have hj : Ev (fun k => spec_l5DrawLots.j0 k [] 120 b i2 g2) (r, c', h') := Ev.step (fun k => by simp only [spec_l5DrawLots.j0]) hr
    exact ⟨r, c', h', Ev.congr (fun k => by rw [Option.bind_some, e1, Option.bind_some]; simp only [e2, Option.bind_some, if_true]) hj, h2, h3⟩
  | false =>
    obtain ⟨r, c', h', hr, h2, h3⟩ := lots_l b x (by have := x1 (by decide); omega) _ 0 [] i2 g2 rfl (by decide) (by decide) (.inr rfl) v2
    have hj : Ev (fun k => spec_l5DrawLots.j0 k [] x b i2 g2) (r, c', h') := Ev.step (fun k => by simp only [spec_l5DrawLots.j0]) hr
    exact ⟨r, c', h', Ev.congr (fun k => by rw [Option.bind_some, e1, Option.bind_some]; simp only [e2, Option.bind_some, Bool.false_eq_true, if_false]) hj, h2, h3⟩
theorem key_ok (l : List Int) (hl : l.length ≤ 140737488351232) : ∃ r x y, Ev (fun k => spec_l5DrawKey.f k l) (r, x, y) ∧ r.length ≤ 1001 := by
  unfold spec_l5DrawKey.f
  obtain ⟨h, hn⟩ := new_ok l hl
  have hv : V l 0 := ⟨by omega, by omega, hl⟩
  obtain ⟨r, i1, g1, hr, h2, v1⟩ := lots_ok l 0 h hv
  obtain ⟨x, i2, g2, e2, _, _, v2⟩ := below_any l i1 g1 4 v1
  obtain ⟨y, i3, g3, e3, _, _, v3⟩ := below_any l i2 g2 2 v2
  exact ⟨r, wrap64 (1 + x), wrap64 (1 + y), Ev_bind hn (Ev_bind hr (Ev_all_k fun k => by simp only [e2, e3, Option.bind_some])), h2⟩
theorem qty_r (l : List SL) (a b : Int) (hl : l.length ≤ 1048576) : Ev (fun k => spec_LotsQty.f k l a b) (impl_LotsOk.sum3 (lotsL l a b) 0) := by
  unfold spec_LotsQty.f
  have := lots_len l a b
  refine Ev_bind (lotsOf_s l a b hl) ?_
  first
  | exact qty_s _ (by omega)
  | exact Ev_bind (qty_s _ (by omega)) (Ev_all_k fun k => rfl)
theorem cost_r (l : List SL) (a b : Int) (hl : l.length ≤ 1048576) : Ev (fun k => spec_LotsCost.f k l a b) (impl_LotsOk.sum4 (lotsL l a b) 0) := by
  unfold spec_LotsCost.f
  have := lots_len l a b
  refine Ev_bind (lotsOf_s l a b hl) ?_
  first
  | exact cost_s _ (by omega)
  | exact Ev_bind (cost_s _ (by omega)) (Ev_all_k fun k => rfl)
theorem drawTake_ok (l : List Int) (hl : l.length ≤ 140737488351232) : ∃ r a b q w, Ev (fun k => spec_DrawLotTake.f k l) (r, a, b, q, w) ∧ r.length ≤ 1001 := by
  unfold spec_DrawLotTake.f
  obtain ⟨r, a, b, hk, h2⟩ := key_ok l hl
  obtain ⟨h, hn⟩ := new_ok l hl
  have hv : V l 0 := ⟨by omega, by omega, hl⟩
  obtain ⟨q0, hq0⟩ : ∃ q0, q0 = impl_LotsOk.sum3 (lotsL r a b) 0 := ⟨_, rfl⟩
  have hq := qty_r r a b (by omega)
  rw [← hq0] at hq
  obtain ⟨x, i1, g1, e1, _, _, v1⟩ := below_any l 0 h 3 hv
  obtain ⟨y, i2, g2, e2, v2⟩ := once_ok l i1 g1 20 v1 (by decide)
  have join : ∀ (w i3 g3 : Int), V l i3 → ∃ q, Ev (fun k => spec_DrawLotTake.j0 k r a b q0 w l i3 g3) (r, a, b, q, w) := by
    intro w i3 g3 v3
    obtain ⟨z, i4, g4, e4, v4⟩ := once_ok l i3 g3 6 v3 (by decide)
    cases z with
    | true =>
      exact ⟨wrap64 (q0 + 1), Ev_one fun k => by
        simp only [spec_DrawLotTake.j0]
        rw [e4, Option.bind_some]
        simp only [if_true]⟩
    | false =>
      obtain ⟨u, i5, g5, e5, v5⟩ := once_ok l i4 g4 6 v4 (by decide)
      cases u with
      | true =>
        exact ⟨q0, Ev_one fun k => by
          simp only [spec_DrawLotTake.j0]
          rw [e4, Option.bind_some]
          simp only [Bool.false_eq_true, if_false, e5, Option.bind_some, if_true]⟩
      | false =>
        obtain ⟨p, i6, g6, e6, _, _, v6⟩ := below_any l i5 g5 (wrap64 (q0 + 2)) v5
        exact ⟨p, Ev_one fun k => by
          simp only [spec_DrawLotTake.j0]
          rw [e4, Option.bind_some]
          simp only [Bool.false_eq_true, if_false, e5, e6, Option.bind_some]⟩
  cases y with
  | true =>
    obtain ⟨w, i3, g3, e3, _, v3⟩ := pick_ok l i2 g2 [0, 4] v2 (by decide) (by decide)
    obtain ⟨q, hj⟩ := join w i3 g3 v3
    exact ⟨r, a, b, q, w, Ev_bind hk (Ev_bind hn (Ev_bind hq (Ev.congr (fun k => by simp only [e1, e2, Option.bind_some, if_true, e3]) hj))), h2⟩
  | false =>
    obtain ⟨q, hj⟩ := join (wrap64 (1 + x)) i2 g2 v2
    exact ⟨r, a, b, q, _, Ev_bind hk (Ev_bind hn (Ev_bind hq (Ev.congr (fun k => by simp only [e1, e2, Option.bind_some, Bool.false_eq_true, if_false]) hj))), h2⟩
end Go.Proofs.Ytomanpmffjkkgaa.D5
namespace Go.Proofs.Ytomanpmffjkkgaa.Pure
open Go Go.RowKit Go.Proofs.Ytomanpmffjkkgaa.P Go.Proofs.YtomanpmffjkkgaaW.PrintWords Go.Proofs.YtomanpmffjkkgaaW.PrintLast Go.Proofs.Ytomanpmffjkkgaa.EV Go.Proofs.Ytomanpmffjkkgaa.I1 Go.Proofs.Ytomanpmffjkkgaa.N1 Go.Proofs.Ytomanpmffjkkgaa.E1 Go.Proofs.Ytomanpmffjkkgaa.E2 Go.Proofs.Ytomanpmffjkkgaa.E3 Go.Proofs.Ytomanpmffjkkgaa.E4 Go.Proofs.Ytomanpmffjkkgaa.E5 Go.Proofs.Ytomanpmffjkkgaa.E6 Go.Proofs.Ytomanpmffjkkgaa.E7 Go.Proofs.Ytomanpmffjkkgaa.E8 Go.Proofs.Ytomanpmffjkkgaa.D5
theorem left_form2 : ∀ (l : List SL) (q : Int), (∀ x ∈ l, E1.Form x) → 0 ≤ q → left l q = [] ∨ ∃ pre x suf p, l = pre ++ x :: suf ∧ left l q = cut x p :: suf ∧ 0 ≤ p ∧ p < x.f3 ∧ E1.Form x
  | [], q, _, _ => .inl rfl
  | y :: ys, q, hf, h0 => by
    simp only [left]
    by_cases h : y.f3 ≤ q
    · rw [if_pos h]
      rcases left_form2 ys (q - y.f3) (fun z hz => hf z (List.mem_cons_of_mem _ hz)) (by omega) with e | ⟨pre, x, suf, p, e1, e2, e3, e4, e5⟩
      · exact .inl e
      · exact .inr ⟨y :: pre, x, suf, p, by rw [e1]; rfl, e2, e3, e4, e5⟩
    · rw [if_neg h]
      exact .inr ⟨[], y, ys, q, rfl, rfl, h0, by omega, hf y (List.mem_cons_self ..)⟩
theorem cut_le {x : SL} (h : E1.Form x) {p : Int} (h0 : 0 ≤ p) (h1 : p < x.f3) : (cut x p).f2 = x.f2 ∧ (cut x p).f3 ≤ x.f3 ∧ (cut x p).f4 ≤ x.f4 := by
  have := paid_ok h h0 (by omega)
  unfold cut
  refine ⟨rfl, ?_, ?_⟩
  · show x.f3 - p ≤ x.f3
    omega
  · show x.f4 - paid x p ≤ x.f4
    omega
theorem getD_back (pre suf : List SL) (x : SL) (i : Nat) (h : i ≤ suf.length) : (pre ++ x :: suf).getD ((pre ++ x :: suf).length - 1 - i) z37 = (x :: suf).getD (suf.length - i) z37 := by
  have e : (pre ++ x :: suf).length - 1 - i = pre.length + (suf.length - i) := by
    rw [List.length_append, List.length_cons]
    omega
  rw [e, List.getD_eq_getElem?_getD, List.getD_eq_getElem?_getD, List.getElem?_append_right (by omega), Nat.add_sub_cancel_left]
theorem same_false (x : SL) : (!((x.f0 == x.f0)) || (!((x.f1 == x.f1)) || (!((x.f2 == x.f2)) || (!((x.f3 == x.f3)) || (!((x.f4 == x.f4))))))) = false := by simp
theorem ways_end (r own last' : List SL) (a b x y : Int) (hl : r.length ≤ 1001) (hle : own = lotsL r a b) (hx : x ≤ impl_LotsOk.sum4 own 0) (hy : y ≤ impl_LotsOk.sum4 own 0) (ho : own.length ≤ 120) (suf : List SL) (z : SL) (p : Int)
    (hlast : last' = [] ∨ (∃ post, own = suf ++ z :: post ∧ last' = suf ++ [cut z p] ∧ 0 ≤ p ∧ p < z.f3 ∧ E1.Form z)) : Ev (fun k => laws_FnWays.l1 k r a b own x y last' 0) true := by
  have fin : ∀ k, laws_FnWays.l1 (k + 1) r a b own x y last' (last'.length : Int) = if (own.length : Int) = 0 then some true else (spec_LotsCost.f k r a b).bind fun t => if x ≤ t then (spec_LotsCost.f k r a b).bind fun u => some (decide (y ≤ u)) else none := fun k => by
    simp only [laws_FnWays.l1]
    rw [if_neg (by omega)]
  have fin2 : Ev (fun k => laws_FnWays.l1 k r a b own x y last' (last'.length : Int)) true := by
    refine Ev.step fin ?_
    by_cases h0 : (own.length : Int) = 0
    · exact Ev_all_k fun k => if_pos h0
    · refine Ev.congr (fun k => if_neg h0) ?_
      have hc := cost_r r a b (by omega)
      rw [← hle] at hc
      refine Ev_bind hc (Ev.congr (fun k => if_pos hx) (Ev_bind hc (Ev_all_k fun k => ?_)))
      rw [decide_eq_true hy]
  rcases hlast with e | ⟨post, e1, e2, p0, p1, hf⟩
  · rw [e] at fin2 ⊢
    exact fin2
  · have hcl := cut_le hf p0 p1
    have hll : last'.length = suf.length + 1 := by rw [e2]; simp
    have hol : own.length = suf.length + 1 + post.length := by rw [e1]; simp; omega
    refine Ev_goes' (fun k (_ : Unit) i => laws_FnWays.l1 k r a b own x y last' i) last'.length (fun _ _ => true) (fun _ _ => True) (fun _ _ => fin2) (fun i _ hi _ => .inr ⟨(), trivial, rfl, fun r2 hr2 => ?_⟩) last'.length 0 () (by omega) (by omega) trivial
    refine Ev.step (fun k => ?_) hr2
    show laws_FnWays.l1 (k + 1) r a b own x y last' (i : Int) = _
    simp only [laws_FnWays.l1, rdL]
    rw [if_pos (by omega), if_pos (by omega), if_pos (by omega), w_succ hi (by omega), w64_in ((last'.length : Int) - 1) (by omega) (by omega)]
    by_cases h1 : i < suf.length
    · have g1 : last'.getD i z37 = suf.getD i z37 := by
        rw [e2, List.getD_eq_getElem?_getD, List.getD_eq_getElem?_getD, List.getElem?_append_left h1]
      have g2 : own.getD i z37 = suf.getD i z37 := by
        rw [e1, List.getD_eq_getElem?_getD, List.getD_eq_getElem?_getD, List.getElem?_append_left h1]
      rw [g1, g2, if_pos rfl, if_pos (by omega), same_false, if_neg (by decide), if_neg (by omega)]
    · have h2 : i = suf.length := by omega
      have g1 : last'.getD i z37 = cut z p := by
        rw [e2, h2, List.getD_eq_getElem?_getD, List.getElem?_append_right (Nat.le_refl _), Nat.sub_self]
        rfl
      have g2 : own.getD i z37 = z := by
        rw [e1, h2, List.getD_eq_getElem?_getD, List.getElem?_append_right (Nat.le_refl _), Nat.sub_self]
        rfl
      rw [g1, g2, if_pos hcl.1, if_neg (by omega), if_neg (by omega)]
theorem ways_first (r own first last' : List SL) (a b x y : Int) (ho : own.length ≤ 120) (hend : Ev (fun k => laws_FnWays.l1 k r a b own x y last' 0) true)
    (hf : first = [] ∨ ∃ pre z suf p, own = pre ++ z :: suf ∧ first = cut z p :: suf ∧ 0 ≤ p ∧ p < z.f3 ∧ E1.Form z) : Ev (fun k => laws_FnWays.l0 k r a b own x y first last' 0) true := by
  have fin2 : Ev (fun k => laws_FnWays.l0 k r a b own x y first last' (first.length : Int)) true := by
    refine Ev.step (fun k => ?_) hend
    show laws_FnWays.l0 (k + 1) r a b own x y first last' (first.length : Int) = _
    simp only [laws_FnWays.l0]
    rw [if_neg (by omega)]
  rcases hf with e | ⟨pre, z, suf, p, e1, e2, p0, p1, hfz⟩
  · rw [e] at fin2 ⊢
    exact fin2
  · have hcl := cut_le hfz p0 p1
    have hll : first.length = suf.length + 1 := by rw [e2]; simp
    have hol : own.length = pre.length + suf.length + 1 := by rw [e1]; simp; omega
    refine Ev_goes' (fun k (_ : Unit) i => laws_FnWays.l0 k r a b own x y first last' i) first.length (fun _ _ => true) (fun _ _ => True) (fun _ _ => fin2) (fun i _ hi _ => .inr ⟨(), trivial, rfl, fun r2 hr2 => ?_⟩) first.length 0 () (by omega) (by omega) trivial
    refine Ev.step (fun k => ?_) hr2
    show laws_FnWays.l0 (k + 1) r a b own x y first last' (i : Int) = _
    simp only [laws_FnWays.l0]
    have w1 : wrap64 ((wrap64 ((own.length : Int) - 1)) - (i : Int)) = ((own.length - 1 - i : Nat) : Int) := by
      rw [w64_in ((own.length : Int) - 1) (by omega) (by omega), w64_in _ (by omega) (by omega)]
      omega
    have w2 : wrap64 ((wrap64 ((first.length : Int) - 1)) - (i : Int)) = ((first.length - 1 - i : Nat) : Int) := by
      rw [w64_in ((first.length : Int) - 1) (by omega) (by omega), w64_in _ (by omega) (by omega)]
      omega
    rw [w1, w2, w64_in ((first.length : Int) - 1) (by omega) (by omega), w_succ hi (by omega)]
    rw [if_pos (by omega), if_pos (by omega), if_pos (by omega), if_pos (by omega), if_pos (by omega)]
    simp only [rdL]
    have g2 : own.getD (own.length - 1 - i) z37 = (z :: suf).getD (suf.length - i) z37 := by
      rw [e1]
      exact getD_back pre suf z i (by omega)
    have g1 : first.getD (first.length - 1 - i) z37 = (cut z p :: suf).getD (suf.length - i) z37 := by
      rw [e2, List.length_cons, Nat.add_sub_cancel]
    rw [g1, g2]
    by_cases h1 : i < suf.length
    · obtain ⟨m, hm⟩ : ∃ m, suf.length - i = m + 1 := ⟨suf.length - i - 1, by omega⟩
      rw [hm]
      simp only [List.getD_cons_succ]
      rw [if_pos trivial, if_pos (by omega), same_false, if_neg (by decide), if_neg (by omega), if_neg (by omega)]
    · rw [show suf.length - i = 0 by omega]
      simp only [List.getD_cons_zero]
      rw [if_pos hcl.1, if_neg (by omega), if_neg (by omega), if_neg (by omega)]
theorem FnWays : laws_FnWays.Pure := by
  intro l0 _ hl1 _
  refine Ev.rounds ?_
  unfold laws_FnWays.f
  have hl : l0.length ≤ 140737488351232 := by omega
  refine Ev.congr (fun k => by unfold laws_big.f; rw [Option.bind_some]) ?_
  by_cases hb : (l0.length : Int) > 1048576
  · exact Ev_all_k fun k => by rw [decide_eq_true hb, if_pos rfl]
  refine Ev.congr (fun k => by rw [decide_eq_false hb, if_neg (by decide)]) ?_
  obtain ⟨l, a, b, q, w, hd, hl2⟩ := drawTake_ok l0 hl
  obtain ⟨o1, ho1⟩ : ∃ o, o = takeR l a b q 1 := ⟨_, rfl⟩
  obtain ⟨o2, ho2⟩ : ∃ o, o = takeR l a b q 2 := ⟨_, rfl⟩
  have hI1 : Ev (fun k => impl_LotTake.f k l a b q 1) o1 := by rw [ho1]; exact take_r l a b q 1 (by omega)
  have hI2 : Ev (fun k => impl_LotTake.f k l a b q 2) o2 := by rw [ho2]; exact take_r l a b q 2 (by omega)
  have hS : Ev (fun k => spec_LotTake.f k l a b q 1) o1 := by rw [ho1]; exact take_s l a b q 1 (by omega)
  refine Ev_bind hd (Ev_bind (lotsOf_s l a b (by omega)) (Ev_bind hI1 (Ev_bind hI2 (Ev_bind hS ?_))))
  refine Ev.congr (fun k => if_pos rfl) ?_
  unfold takeR at ho1 ho2
  by_cases h : impl_LotsOk.ok l = true ∧ (1 ≤ q ∧ q ≤ 1000000000000000)
  · have h1 : impl_LotsOk.ok l = true ∧ (1 ≤ q ∧ q ≤ 1000000000000000) ∧ ((1 : Int) ≤ 1 ∧ (1 : Int) ≤ 3) := ⟨h.1, h.2, by omega, by omega⟩
    have h2 : impl_LotsOk.ok l = true ∧ (1 ≤ q ∧ q ≤ 1000000000000000) ∧ ((1 : Int) ≤ 2 ∧ (2 : Int) ≤ 3) := ⟨h.1, h.2, by omega, by omega⟩
    rw [if_pos h1] at ho1
    rw [if_pos h2] at ho2
    have hR := (ok_iff l).1 h.1
    have q2 := lots_of_right hR a b
    have hO := own_of hR a b
    by_cases ht : tot (ofL a b l) < q
    · rw [if_pos ht] at ho1 ho2
      rw [ho1, ho2]
      exact Ev_one fun k => by
        show laws_FnWays.j0 (k + 1) l a b (lotsL l a b) l 0 2 l 0 false = _
        simp only [laws_FnWays.j0]
        rw [if_neg (by decide), if_neg (by decide)]
        rfl
    · rw [if_neg ht] at ho1 ho2
      have hq0 : 0 < q := by omega
      have hq1 : q ≤ tot (ofL a b l) := by omega
      have t1 := take_sums hO 1 q hq0 hq1
      have t2 := take_sums hO 2 q hq0 hq1
      have k1 := tk_own hO (by omega) 1 q
      have k2 := tk_own hO (by omega) 2 q
      have n1 := take_right hR a b 1 q hq0 hq1
      have n2 := take_right hR a b 2 q hq0 hq1
      have e1 := of_own l k1
      have e2 := of_own l k2
      have m1 := lots_of_right n1 a b
      have m2 := lots_of_right n2 a b
      rw [e1] at m1
      rw [e2] at m2
      have s1 : tk 1 (left (src 1 (ofL a b l)) q) = left (ofL a b l) q := rfl
      have s2 : tk 2 (left (src 2 (ofL a b l)) q) = (left (ofL a b l).reverse q).reverse := rfl
      rw [ho1, ho2]
      have l1 := n1.1
      have l2 := n2.1
      refine Ev.step (f := fun k => laws_FnWays.l0 k l a b (lotsL l a b) (cost (src 1 (ofL a b l)) q) (cost (src 2 (ofL a b l)) q) (left (ofL a b l) q) (left (ofL a b l).reverse q).reverse 0) (fun k => ?_) ?_
      · show laws_FnWays.j0 (k + 1) l a b (lotsL l a b) (mergeL (outL a b l) (tk 1 (left (src 1 (ofL a b l)) q))) (cost (src 1 (ofL a b l)) q) 0 (mergeL (outL a b l) (tk 2 (left (src 2 (ofL a b l)) q))) (cost (src 2 (ofL a b l)) q) false = _
        simp only [laws_FnWays.j0]
        rw [if_neg (by decide), if_pos trivial, lotsOf_i _ _ _ (by omega), Option.bind_some, lotsOf_i _ _ _ (by omega), Option.bind_some, m1.1, m2.1, s1, s2]
      · have hlen := hO.len
        rw [q2.1]
        refine ways_first l (ofL a b l) _ _ a b _ _ hlen ?_ (left_form2 _ q hO.form (by omega))
        have hc4 : impl_LotsOk.sum4 (ofL a b l) 0 = all4 (ofL a b l) := (congrArg (fun m => impl_LotsOk.sum4 m 0) q2.1).symm.trans q2.2.2
        rcases left_form2 (ofL a b l).reverse q (fun x hx => hO.form x (List.mem_reverse.1 hx)) (by omega) with e | ⟨pre, x, suf, p, f1, f2, f3, f4, f5⟩
        · exact ways_end l (ofL a b l) _ a b _ _ hl2 q2.1.symm (by rw [hc4]; exact t1.2.2.2) (by rw [hc4]; exact t2.2.2.2) hlen [] z37 0 (.inl (by rw [e]; rfl))
        · refine ways_end l (ofL a b l) _ a b _ _ hl2 q2.1.symm (by rw [hc4]; exact t1.2.2.2) (by rw [hc4]; exact t2.2.2.2) hlen suf.reverse x p (.inr ⟨pre.reverse, ?_, ?_, f3, f4, f5⟩)
          · have := congrArg List.reverse f1
            rw [List.reverse_reverse, List.reverse_append, List.reverse_cons, List.append_assoc] at this
            exact this
          · rw [f2, List.reverse_cons]
  · rw [if_neg fun g => h ⟨g.1, g.2.1⟩] at ho1 ho2
    rw [ho1, ho2]
    exact Ev_one fun k => by
      show laws_FnWays.j0 (k + 1) l a b (lotsL l a b) [] 0 1 [] 0 false = _
      simp only [laws_FnWays.j0]
      rw [if_neg (by decide), if_neg (by decide)]
      rfl
end Go.Proofs.Ytomanpmffjkkgaa.Pure
namespace Go.Proofs.YtomanpmffjkkgaaW.PrintWords
open Go.ChangeShapes Go.WideShapes
theorem sized_ints {H : Type} {enc : TypeId × Value → H} {P : Program} {W : World} {base : Nat} {spare : Nat → Bool} {held : Bool} {t e : TypeId} {k : IntKind} {a : Option Addr} {len cap : Nat} {d : DataW H} {ps : List MemPlace} {ts : List TypeId} {ds : List (DataW H)} {j : Nat}
    (hsz : (DataW.weightsEach P ts ds).all (· ≤ reachBytes) = true) (ht : ts[j]? = some t) (hd : ds[j]? = some d) (hu : P.underlying t = some (.slice e)) (he : P.underlying e = some (.int k)) (hc : P.cellsOf e = 1) {B : Nat} (hB : P.bytesOf e = B)
    (h : DataW.Trod enc P W base spare held t (.slice a len cap) d ps) : len * B ≤ 140737488351232 := by
  obtain ⟨fuel, hf⟩ := h
  rcases open_ints hu he hc hf with ⟨hcs, _⟩ | ⟨x, l, c, zs, hcs, _, hl, _, hz, hx, _, _⟩
  · simp [Value.cells] at hcs
    obtain ⟨rfl, rfl, rfl⟩ := hcs
    simp
  · simp [Value.cells] at hcs
    obtain ⟨rfl, rfl, rfl⟩ := hcs
    obtain ⟨hx, _⟩ := Prod.mk.inj hx
    subst hx
    have z := sized_slice hsz ht hd hu
    rw [hB] at z
    have hl2 : len ≤ zs.length := by
      rw [hz]
      split
      · exact hl
      · exact Nat.le_refl _
    have h1 : (lits (H := H) k (zs.take len)).length + (lits (H := H) k (zs.drop len)).length = zs.length := by
      simp [lits]
      omega
    rw [h1] at z
    exact Nat.le_trans (Nat.mul_le_mul_right _ hl2) z
end Go.Proofs.YtomanpmffjkkgaaW.PrintWords
namespace Go.Proofs.Ytomanpmffjkkgaa.fnWays
open Go.ChangeShapes Go.WideShapes Go.ChangeAt Go.RowKit
open Go.ChangeMaps (open_string shut_string)
set_option linter.unusedVariables false
theorem own : ownKnob Try.prog.godebug = none := by kernel_rfl
theorem laidOut : laidOutB Try.prog = true := by kernel_rfl
def IsRow (k : IntKind) (w : World) (a : Option Addr) (len cap : Nat) (zs : List Int) : Prop :=
  (a = none ∧ len = 0 ∧ cap = 0 ∧ zs = []) ∨
  ∃ x, a = some x ∧ len ≤ cap ∧ cap ≤ maxLen ∧ zs.length = cap ∧ (∀ i, i < zs.length → w.cell? (x.add i) = some (.int k (zs.getD i 0))) ∧ ∀ n ∈ zs, (Lit.int k n).wf = true
set_option maxRecDepth 100000 in
theorem lifted (os : Os) (started : os.Started) (H : Type) (enc : TypeId × Value → H) :
    ReturnsInHanded {} Try.checked os 11 .any (Rows.fnWaysSpec.pre6 enc Try.prog Try.f11 Rows.fnWaysRow.domain false) (Rows.fnWaysSpec.post enc Try.prog Try.f11 false true false false) := by
  refine returnsInHanded_of_change_sized (C := Try.checked) own started (by kernel_rfl) Try.func11
    (ChangeSpec.witness6 (enc := enc) (C := Try.checked) false ⟨#[], #[.slice none 0 0], []⟩ 8 (by kernel_rfl) (by kernel_rfl) (by kernel_rfl) (by kernel_rfl)) ?_
  intro W base args ds gs before hval0 hW hcnd hsz0 _
  have hsz : (DataW.weightsEach Try.prog (Try.f11.params.toList ++ Rows.fnWaysSpec.plain.varTypes Try.prog) (ds ++ gs)).all (· ≤ reachBytes) = true := hsz0
  have hval : ∀ (j : Nat) t v, Try.f11.params[j]? = some t → args[j]? = some v → Value.okWide Try.prog W .any base t v := hval0
  have hW' := hW
  obtain ⟨p, q, hA0, hV, rfl, hfz, hnd⟩ := hW
  have hA : DataW.TrodAll enc Try.prog W 0 (fun _ => true) true Try.f11.params.toList args.toList ds p := hA0
  rw [Try.params11] at hA hval hsz
  obtain ⟨v0, vs0, d0, ds0, p0, q0, hargs, rfl, rfl, h0, r0⟩ := trodAll_cons hA
  obtain ⟨rfl, rfl, rfl⟩ := trodAll_nil r0
  obtain rfl : args = #[v0] := by cases args; simp_all
  obtain ⟨rfl, rfl⟩ := trodVars_none hV
  obtain ⟨a0, len0, cap0, rfl⟩ := okWide_slice Try.underlying40 (hval 0 40 v0 rfl rfl)
  have k0 := h0
  have lt0 : ∀ x ∈ p0, x.block < W.heap.size := by obtain ⟨m, hm⟩ := k0; exact DataW.trod_lt m _ _ _ hm
  obtain ⟨z0, w0⟩ : ∃ zs, IsRow .u8 W a0 len0 cap0 zs := by
    obtain ⟨fuel, hf⟩ := h0
    rcases open_ints Try.underlying40 Try.underlying5 (by kernel_rfl) hf with ⟨hcs, _⟩ | ⟨x, l, c, zs, hcs, _, hl, hm, hz, _, hcell, hwz⟩
    · simp [Value.cells] at hcs
      obtain ⟨rfl, rfl, rfl⟩ := hcs
      exact ⟨[], .inl ⟨rfl, rfl, rfl, rfl⟩⟩
    · simp [Value.cells] at hcs
      obtain ⟨rfl, rfl, rfl⟩ := hcs
      exact ⟨zs, .inr ⟨_, rfl, hl, hm, by simpa using hz, hcell, hwz⟩⟩
  have y0 : len0 * 1 ≤ 140737488351232 := Go.Proofs.YtomanpmffjkkgaaW.PrintWords.sized_ints hsz (j := 0) (t := 40) rfl rfl Try.underlying40 Try.underlying5 (by kernel_rfl) (by kernel_rfl) h0
  clear hA0 hval0 hsz0 hsz
  refine (P.laws_FnWays.walk Pure.FnWays a0 len0 cap0 z0 W w0 y0).mono fun e W' ⟨he, bel⟩ => ?_
  subst he
  exact ⟨_, rfl, _, _, _, [], _, [], hW', trodAll_mk1 (shut_bool Try.underlying4 _), (trodAll_cons_mk (Below.trod laidOut (by kernel_rfl) (of_decide_eq_true (by kernel_rfl)) k0 bel lt0) trodAll_mk0), rfl, bel.frame _, fun h => by cases h⟩
theorem over : Rows.fnWaysRow.holds Try.pinned (OpenSpec.ofChange Rows.fnWaysSpec) :=
  OpenClaim.holds_of_wide 11 Try.f11 rfl rfl rfl rfl rfl rfl rfl ⟨rfl, rfl, rfl, rfl, rfl⟩ rfl rfl rfl rfl rfl (by kernel_rfl) Try.func11 (by kernel_rfl)
    (of_decide_eq_true (by kernel_rfl)) (by unfold Func.isWrapper; first | (rw [if_pos (by decide +kernel)]; kernel_rfl) | (rw [if_neg (by decide +kernel)]; exact ⟨rfl, rfl⟩))
    (fun os started H enc _ => lifted os started H enc)
theorem proved : Rows.FnWaysSaid := over
#print axioms proved
end Go.Proofs.Ytomanpmffjkkgaa.fnWays
namespace Go.Proofs.Ytomanpmffjkkgaa
theorem fnWays_holds : Rows.FnWaysSaid := fnWays.proved
end Go.Proofs.Ytomanpmffjkkgaa
